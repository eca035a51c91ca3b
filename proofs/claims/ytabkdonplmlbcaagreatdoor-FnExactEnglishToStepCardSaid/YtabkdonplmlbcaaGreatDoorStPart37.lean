import Derived.Test.YtabkdonplmlbcaaGreatDoorStPart33
import Derived.Test.YtabkdonplmlbcaaGreatDoorStPart36
namespace Go.Proofs.YtabkdonplmlbcaaGreatDoor
set_option maxRecDepth 100000
open Go.RowKit
section
variable {g sb rb : Nat} {s : ByteArray} {w : World} {rule : Int} {ps wh : List Int} {vp vw : Value} {Fp Fw : Nat → Prop} {p p' : PSt} {w1 w2 : World}
theorem RefSt.fps (h : RefSt g sb rb s w rule ps wh vp vw Fp Fw p w1) : ∀ b, Fp b → b < w1.heap.size ∧ b ≠ sb ∧ b ≠ g := fun b e => ⟨(h.st.fp b e).2.1, (h.st.fp b e).2.2.1, (h.st.fp b e).2.2.2.1⟩
theorem RefSt.fwh (h : RefSt g sb rb s w rule ps wh vp vw Fp Fw p w1) : ∀ b, Fw b → b < w1.heap.size ∧ b ≠ sb ∧ b ≠ g := fun b e => ⟨(h.st.fw b e).2.1, (h.st.fw b e).2.2.1, (h.st.fw b e).2.2.2⟩
theorem RefSt.step (h : RefSt g sb rb s w rule ps wh vp vw Fp Fw p w1) (hr : PAt 51 w2 g s p') (hg : w1.grownBy w2 (some g)) (hp : p'.pos ≤ s.size) (hne : sb ≠ g) (hgrb : g < w.heap.size ∧ w.heap.size ≤ rb) : RefSt g sb rb s w rule ps wh vp vw Fp Fw p' w2 :=
 ⟨hr, h.st.gr hg hne, (hg.block rb (blk_lt h.res) (fun e => by injection e with e; omega)).trans h.res, gr_trans h.gr hg, hp, h.lo⟩
theorem gr_kp {X : Nat → Prop} (h : w.grownBy w1 (some g)) (hk : Kp X w1 w2) (hX : ∀ b, X b → b = g ∨ w.heap.size ≤ b) : w.grownBy w2 (some g) :=
 ⟨hk.os.trans h.os, hk.tape.trans h.tape, hk.output.trans h.output, Nat.le_trans h.size hk.size, fun b hb hn => (hk.block b (Nat.lt_of_lt_of_le hb h.size) (fun e => (hX b e).elim (fun e => hn (by rw [e])) (fun e => by omega))).trans (h.block b hb hn)⟩
theorem RefSt.kp {rule' : Int} {ps' wh' : List Int} {vp' vw' : Value} {Fp' Fw' X : Nat → Prop} (h : RefSt g sb rb s w rule ps wh vp vw Fp Fw p w1) (hk : Kp X w1 w2) (hX : ∀ b, X b → b = g ∨ rb + 1 ≤ b) (hr : PAt 51 w2 g s p') (hs : StB (rb + 1) g sb rule' ps' wh' vp' vw' Fp' Fw' w2) (hp : p'.pos ≤ s.size) (hgrb : g < w.heap.size ∧ w.heap.size ≤ rb) : RefSt g sb rb s w rule' ps' wh' vp' vw' Fp' Fw' p' w2 :=
 ⟨hr, hs, (hk.block rb (blk_lt h.res) (fun e => by have := hX _ e; omega)).trans h.res, gr_kp h.gr hk (fun b e => (hX b e).imp id (fun e => by omega)), hp, h.lo⟩
theorem StB.app_ps {lo : Nat} (h : StB lo g sb rule ps wh vp vw Fp Fw w1) {n : Int} {v' : Value} {F1 : Nat → Prop} (hk : Kp (fun b => b = g ∨ b = sb ∨ Fp b) w1 w2) (hrow : IntOwn 3 F1 w2 (ps ++ [n]) v') (hbx : w2.heap[sb]? = some (.cells #[.int .i64 rule, v', vw, .slice none 0 0] 27 (0, 0)))
  (hF : ∀ b, F1 b → ((b = g ∨ b = sb ∨ Fp b) ∨ w1.heap.size ≤ b) ∧ b < w2.heap.size ∧ b ≠ sb ∧ b ≠ g) (hlo : lo ≤ w1.heap.size) : StB lo g sb rule (ps ++ [n]) wh v' vw F1 Fw w2 := by
 have hz := hk.size
 refine ⟨hbx, hrow, h.wh.mono (fun b hb hl => hk.block b hl (fun e => e.elim (h.fw b hb).2.2.2 (fun e => e.elim (h.fw b hb).2.2.1 (fun e => (h.fp b e).2.2.2.2 hb)))) (fun _ h => h), fun b e => ?_, fun b e => by have := h.fw b e; exact ⟨this.1, by omega, this.2.2⟩⟩
 obtain ⟨k1, k2, k3, k4⟩ := hF b e
 rcases k1 with (k1 | k1 | k1) | k1
 ·exact absurd k1 k4
 ·exact absurd k1 k3
 ·exact ⟨(h.fp b k1).1, k2, k3, k4, (h.fp b k1).2.2.2.2⟩
 ·exact ⟨by omega, k2, k3, k4, fun e' => by have := (h.fw b e').2.1; omega⟩
theorem StB.app_wh {lo : Nat} (h : StB lo g sb rule ps wh vp vw Fp Fw w1) {n : Int} {v' : Value} {F1 : Nat → Prop} (hk : Kp (fun b => b = g ∨ b = sb ∨ Fw b) w1 w2) (hrow : IntOwn 3 F1 w2 (wh ++ [n]) v') (hbx : w2.heap[sb]? = some (.cells #[.int .i64 rule, vp, v', .slice none 0 0] 27 (0, 0)))
  (hF : ∀ b, F1 b → ((b = g ∨ b = sb ∨ Fw b) ∨ w1.heap.size ≤ b) ∧ b < w2.heap.size ∧ b ≠ sb ∧ b ≠ g) (hlo : lo ≤ w1.heap.size) : StB lo g sb rule ps (wh ++ [n]) vp v' Fp F1 w2 := by
 have hz := hk.size
 have hpf : ∀ b, Fp b → b < w1.heap.size ∧ b ≠ g ∧ b ≠ sb ∧ ¬ Fw b := fun b e => ⟨(h.fp b e).2.1, (h.fp b e).2.2.2.1, (h.fp b e).2.2.1, (h.fp b e).2.2.2.2⟩
 have hcl : ∀ b, F1 b → lo ≤ b ∧ ¬ Fp b := fun b e => by
  obtain ⟨k1, k2, k3, k4⟩ := hF b e
  rcases k1 with (k1 | k1 | k1) | k1
  ·exact absurd k1 k4
  ·exact absurd k1 k3
  ·exact ⟨(h.fw b k1).1, fun e' => (hpf b e').2.2.2 k1⟩
  ·exact ⟨by omega, fun e' => by have := (hpf b e').1; omega⟩
 refine ⟨hbx, h.ps.mono (fun b hb hl => hk.block b hl (fun e => e.elim (hpf b hb).2.1 (fun e => e.elim (hpf b hb).2.2.1 (hpf b hb).2.2.2))) (fun _ h => h), hrow, fun b e => ⟨(h.fp b e).1, by have := (hpf b e).1; omega, (hpf b e).2.2.1, (hpf b e).2.1, fun e' => (hcl b e').2 e⟩, fun b e => ⟨(hcl b e).1, (hF b e).2.1, (hF b e).2.2⟩⟩
theorem RefSt.app_ps (h : RefSt g sb rb s w rule ps wh vp vw Fp Fw p w1) {n : Int} {v' : Value} {F1 : Nat → Prop} (hk : Kp (fun b => b = g ∨ b = sb ∨ Fp b) w1 w2) (hr : PAt 51 w2 g s p') (hrow : IntOwn 3 F1 w2 (ps ++ [n]) v') (hbx : w2.heap[sb]? = some (.cells #[.int .i64 rule, v', vw, .slice none 0 0] 27 (0, 0)))
  (hF : ∀ b, F1 b → ((b = g ∨ b = sb ∨ Fp b) ∨ w1.heap.size ≤ b) ∧ b < w2.heap.size ∧ b ≠ sb ∧ b ≠ g) (hp : p'.pos ≤ s.size) (_hne : sb ≠ g) (hgrb : g < w.heap.size ∧ w.heap.size ≤ rb) : RefSt g sb rb s w rule (ps ++ [n]) wh v' vw F1 Fw p' w2 :=
 h.kp hk (fun b e => e.imp id (fun e => e.elim (fun e => by have := h.lo; omega) (fun e => (h.st.fp b e).1))) hr (h.st.app_ps hk hrow hbx hF (by have := blk_lt h.res; omega)) hp hgrb
theorem RefSt.app_wh (h : RefSt g sb rb s w rule ps wh vp vw Fp Fw p w1) {n : Int} {v' : Value} {F1 : Nat → Prop} (hk : Kp (fun b => b = g ∨ b = sb ∨ Fw b) w1 w2) (hr : PAt 51 w2 g s p') (hrow : IntOwn 3 F1 w2 (wh ++ [n]) v') (hbx : w2.heap[sb]? = some (.cells #[.int .i64 rule, vp, v', .slice none 0 0] 27 (0, 0)))
  (hF : ∀ b, F1 b → ((b = g ∨ b = sb ∨ Fw b) ∨ w1.heap.size ≤ b) ∧ b < w2.heap.size ∧ b ≠ sb ∧ b ≠ g) (hp : p'.pos ≤ s.size) (_hne : sb ≠ g) (hgrb : g < w.heap.size ∧ w.heap.size ≤ rb) : RefSt g sb rb s w rule ps (wh ++ [n]) vp v' Fp F1 p' w2 :=
 h.kp hk (fun b e => e.imp id (fun e => e.elim (fun e => by have := h.lo; omega) (fun e => (h.st.fw b e).1))) hr (h.st.app_wh hk hrow hbx hF (by have := blk_lt h.res; omega)) hp hgrb
theorem RefSt.setRule (h : RefSt g sb rb s w rule ps wh vp vw Fp Fw p w1) (r : Int) (hne : sb ≠ g) (hgrb : g < w.heap.size ∧ w.heap.size ≤ rb) : RefSt g sb rb s w r ps wh vp vw Fp Fw p (w1.setCell ⟨sb, 0, none⟩ (.int .i64 r)) :=
 h.kp ((Kp.refl (fun b => b = sb) w1).sc (.inl rfl) _) (fun b e => .inr (by have := h.lo; omega)) ((heap_setCell_other w1 ⟨sb, 0, none⟩ g _ (fun e => hne e.symm)).trans h.rd) (h.st.rule r) h.pos hgrb
theorem StB.putW3 {lo : Nat} (h : StB lo g sb rule ps wh vp vw Fp Fw w1) {l : List Int} {v1 : Value} (hb : Below w1.heap.size w1 w2) (hr : IntOwn 3 (NewB w1 w2) w2 l v1) (hlo : lo ≤ sb) (hg : g < w1.heap.size) :
  StB lo g sb rule ps l vp v1 Fp (NewB w1 w2) (w2.setCell ⟨sb, 2, none⟩ v1) := by
 have hk := blk_lt h.box
 have hz := hb.size
 have h3 := heap_setCell_same _ sb 2 _ 27 v1 ((hb.block sb hk).trans h.box)
 refine ⟨by simpa using h3, ?_, ?_, fun b e => ⟨(h.fp b e).1, by have := (h.fp b e).2.1; simp; omega, (h.fp b e).2.2.1, (h.fp b e).2.2.2.1, fun e' => by have := (h.fp b e).2.1; have := e'.1; omega⟩, fun b e => ⟨by have := e.1; omega, by have := e.2; simp; omega, by have := e.1; omega, by have := e.1; omega⟩⟩
 ·exact (IntOwn.later hb h.ps).mono ((SameOn.refl _ _).sc (fun b hb' e => (h.fp b hb').2.2.1 e) _) (fun _ h => h)
 ·exact hr.mono ((SameOn.refl _ _).sc (fun b hb' e => by have := hb'.1; simp at e; omega) _) (fun _ h => h)
theorem RefSt.putW (h : RefSt g sb rb s w rule ps wh vp vw Fp Fw p w1) {l : List Int} {v1 : Value} (hb : Below w1.heap.size w1 w2) (hr : IntOwn 3 (NewB w1 w2) w2 l v1) (hne : sb ≠ g) (hgrb : g < w.heap.size ∧ w.heap.size ≤ rb) : RefSt g sb rb s w rule ps l vp v1 Fp (NewB w1 w2) p (w2.setCell ⟨sb, 2, none⟩ v1) :=
 h.kp (((Kp.refl (fun b => b = sb) w1).be hb).sc (.inl rfl) _) (fun b e => .inr (by have := h.lo; omega)) ((heap_setCell_other w2 ⟨sb, 2, none⟩ g _ (fun e => hne e.symm)).trans (h.rd.below hb)) (h.st.putW3 hb hr h.lo h.rd.lt) h.pos hgrb
end
def RoRel (g sb rb : Nat) (s : ByteArray) (w : World) (FN : Nat → Prop) (all : List Int) (pe : PSt) (wr : World) : Prop :=
 ∃ (f : Nat) (p : PSt) (ps : List Int) (v : Value) (F : Nat → Prop), RefSt g sb rb s w 6 ps [] v (.slice none 0 0) F FN p wr ∧ ps ++ (rMore s.data.toList f p).1 = all ∧ (rMore s.data.toList f p).2 = pe ∧ ps.length + f = 11
def OrgV (g : Nat) (s : ByteArray) (o : Stp) (p : PSt) (w : World) (e : Ending) (w' : World) : Prop :=
 ∃ p1 c1 q1 d1, ∃ Fp Fw : Nat → Prop, e = .returned (.agg #[.int .i64 o.rule, .slice p1 o.ps.length c1, .slice q1 o.wh.length d1, .slice none 0 0]) ∧ IntOwn 3 Fp w' o.ps (.slice p1 o.ps.length c1) ∧ IntOwn 3 Fw w' o.wh (.slice q1 o.wh.length d1) ∧ (∀ b, Fp b → w.heap.size ≤ b ∧ b < w'.heap.size ∧ ¬ Fw b) ∧ (∀ b, Fw b → w.heap.size ≤ b ∧ b < w'.heap.size) ∧ PAt 51 w' g s p ∧ w.grownBy w' (some g)
theorem getDq (s : ByteArray) (k : Nat) (h : k < s.size) : s.data.toList.getD k 0 = s[k] := by
 rw [List.getD_eq_getElem?_getD, List.getElem?_eq_getElem (by rw [← size_list]; exact h)]
 rfl
theorem sc4_other (w : World) (rb : Nat) (x0 x1 x2 x3 : Value) {b : Nat} (hb : b ≠ rb) : ((((w.setCell ⟨rb, 0, none⟩ x0).setCell ⟨rb, 1, none⟩ x1).setCell ⟨rb, 2, none⟩ x2).setCell ⟨rb, 3, none⟩ x3).heap[b]? = w.heap[b]? := by
 rw [heap_setCell_other _ _ _ _ hb, heap_setCell_other _ _ _ _ hb, heap_setCell_other _ _ _ _ hb, heap_setCell_other _ _ _ _ hb]
theorem gr_sc4 {g rb : Nat} {w w1 : World} (h : w.grownBy w1 (some g)) (hrb : w.heap.size ≤ rb) (x0 x1 x2 x3 : Value) : w.grownBy ((((w1.setCell ⟨rb, 0, none⟩ x0).setCell ⟨rb, 1, none⟩ x1).setCell ⟨rb, 2, none⟩ x2).setCell ⟨rb, 3, none⟩ x3) (some g) :=
 gr_sc (gr_sc (gr_sc (gr_sc h (.inr hrb) _) (.inr hrb) _) (.inr hrb) _) (.inr hrb) _
theorem RefSt.hand {g sb rb : Nat} {s : ByteArray} {w : World} {rule : Int} {ps wh : List Int} {p1 q1 : Option Addr} {c1 d1 : Nat} {Fp Fw : Nat → Prop} {p : PSt} {w1 : World} (h : RefSt g sb rb s w rule ps wh (.slice p1 ps.length c1) (.slice q1 wh.length d1) Fp Fw p w1) (hgrb : g < w.heap.size ∧ w.heap.size ≤ rb) (x0 x1 x2 x3 : Value) :
  OrgV g s ⟨rule, ps, wh, []⟩ p w (.returned (.agg #[.int .i64 rule, .slice p1 ps.length c1, .slice q1 wh.length d1, .slice none 0 0])) ((((w1.setCell ⟨rb, 0, none⟩ x0).setCell ⟨rb, 1, none⟩ x1).setCell ⟨rb, 2, none⟩ x2).setCell ⟨rb, 3, none⟩ x3) := by
 have hfp : ∀ b, Fp b → b ≠ rb := fun b e => by have := (h.st.fp b e).1; omega
 have hfw : ∀ b, Fw b → b ≠ rb := fun b e => by have := (h.st.fw b e).1; omega
 refine ⟨p1, c1, q1, d1, Fp, Fw, rfl, h.st.ps.mono (fun b hb _ => sc4_other _ _ _ _ _ _ (hfp b hb)) (fun _ h => h), h.st.wh.mono (fun b hb _ => sc4_other _ _ _ _ _ _ (hfw b hb)) (fun _ h => h), fun b e => ⟨by have := (h.st.fp b e).1; omega, by have := (h.st.fp b e).2.1; simpa using this, (h.st.fp b e).2.2.2.2⟩, fun b e => ⟨by have := (h.st.fw b e).1; omega, by have := (h.st.fw b e).2.1; simpa using this⟩, (sc4_other _ _ _ _ _ _ (by omega)).trans h.rd, gr_sc4 h.gr hgrb.2 _ _ _ _⟩
theorem org_one {g : Nat} {s : ByteArray} {p : PSt} {w w2 : World} (hP : PAt 51 w2 g s p) (hg : w.grownBy w2 (some g)) (hgl : g < w.heap.size) (n : Int) (hn : i64B n) (hr : w2.heap[w.heap.size]? = some zCells) {x0 x1 x2 x3 : Value} :
  OrgV g s ⟨1, [], [n], []⟩ p w (.returned (.agg #[.int .i64 1, .slice none 0 0, .slice (some ⟨w2.heap.size, 0, none⟩) 1 1, .slice none 0 0])) (((((w2.setCell ⟨w.heap.size, 0, none⟩ x0).setCell ⟨w.heap.size, 1, none⟩ x1).setCell ⟨w.heap.size, 2, none⟩ x2).setCell ⟨w.heap.size, 3, none⟩ x3).alloc (.cells #[.int .i64 n] 3)) := by
 have hz := hg.size
 have hrl := blk_lt hr
 have i0 := intNew ((((w2.setCell ⟨w.heap.size, 0, none⟩ x0).setCell ⟨w.heap.size, 1, none⟩ x1).setCell ⟨w.heap.size, 2, none⟩ x2).setCell ⟨w.heap.size, 3, none⟩ x3) [n] (by simp [maxLen]) (by simpa using hn)
 refine ⟨none, 0, some ⟨w2.heap.size, 0, none⟩, 1, fun _ => False, fun b => b = w2.heap.size, rfl, OwnRow.nil _ _ _ _ _, by simpa [intW] using i0, fun b e => e.elim, fun b e => ⟨by omega, by simp; omega⟩, ?_, gr_al (gr_sc4 hg (Nat.le_refl _) _ _ _ _) _⟩
 exact (Below.heap_alloc _ _ g (by simp; omega)).trans ((sc4_other _ _ _ _ _ _ (by omega)).trans hP)
set_option maxHeartbeats 12800000 in
theorem refOrigin_any (g : Nat) (s : ByteArray) (p : PSt) (w : World) (h : PAt 51 w g s p) (hp : p.pos ≤ s.size) (hs : s.size ≤ 1000000) :
  Calls Tryz.prog 26 #[.pointer (some ⟨g, 0, none⟩)] w (OrgV g s (rOrg s.data.toList p).1 (rOrg s.data.toList p).2 w) := by
 have H := Lib.hid h
 have hg := bsz h.lt
 have hgl := h.lt
 clear h
 go_enter Tryz.func26, Tryz.ntmps26
 go_wp2_with fail
 refine (refTake_any g s (⟨sByAx.toArray⟩ : ByteArray) p _ (H.out.below (by exact bel)) hp (by omega) (by decide)).mono ?_
 rw [show (⟨sByAx.toArray⟩ : ByteArray).data.toList = sByAx from rfl]
 rintro e w1 ⟨v, rfl, rfl, hP1, hg1⟩
 have hz1 := hg1.size
 simp at hz1
 have hR1 : w1.heap[w.heap.size]? = some zCells := (hg1.block _ (by simp) (by simp; omega)).trans (heap_alloc_new w _)
 have hG1 : w.grownBy w1 (some g) := gr_trans (gr_al (gr_refl w g) _) hg1
 cases hT : pTake s.data.toList sByAx p
 case true =>
  rw [hT, if_pos rfl] at hP1
  have hpt := pTake_le hT (by rw [← size_list]; exact hp)
  rw [← size_list] at hpt
  obtain ⟨p1, hp1⟩ : ∃ p1, pAdv sByAx p = p1 := ⟨_, rfl⟩
  have hpt : p1.pos ≤ s.size := by rw [← hp1]; exact hpt
  rw [hp1] at hP1
  obtain ⟨a, ha⟩ : ∃ a, rNum s.data.toList p1 = a := ⟨_, rfl⟩
  have HRS := Lib.hid (show rOrg s.data.toList p = (⟨1, [], [a.1 - 1], []⟩, a.2) by rw [rOrg, if_pos hT, hp1, ha])
  have nba := rNum_bd s.data.toList p1
  rw [ha] at nba
  clear hT hp1
  go_wp2_with fail
  refine (refNum_any g s p1 _ hP1 hpt (by omega)).mono ?_
  rw [ha]
  rintro e w2 ⟨v, rfl, rfl, hP2, hg2⟩
  have hz2 := hg2.size
  have hR2 : w2.heap[w.heap.size]? = some zCells := (hg2.block _ (by omega) (by simp; omega)).trans hR1
  have H2 := Lib.hid (And.intro hP2 (gr_trans hG1 hg2))
  have HR2 := Lib.hid hR2
  obtain ⟨r0, r1, r2, r3, rf⟩ := stp_cells hR2
  have zr := bsz (blk_lt hR2)
  have wra : IntKind.i64.wrap (a.1 - 1) = a.1 - 1 := IntWalk.i64_in _ (by omega)
  clear ha hP1 hg1 hR1 hG1 hP2 hg2 hR2
  go_wp2
  refine bodyPost_ret (v := .agg #[.int .i64 1, .slice none 0 0, .slice (some ⟨w2.heap.size, 0, none⟩) 1 1, .slice none 0 0]) (by simp only [results, Tryz.results26]; go_simp) rfl ?_
  rw [HRS.out]
  exact org_one H2.out.1 H2.out.2 hgl (a.1 - 1) (by exact ⟨by omega, by omega⟩) HR2.out
 have HT := Lib.hid hT
 rw [hT, if_neg (by simp)] at hP1
 have H1 := Lib.hid hP1
 clear hP1 hT
 have HRG := Lib.hid (And.intro hR1 hG1)
 clear hR1 hG1 hg1
 obtain ⟨p2, hp2⟩ : ∃ p2, pMust s.data.toList sFrom p = p2 := ⟨_, rfl⟩
 have HP2 := Lib.hid hp2
 have hpp2 := pMust_pos s.data.toList sFrom p (by rw [← size_list]; exact hp)
 rw [hp2, ← size_list] at hpp2
 go_wp2_with fail
 refine (refWant_any g s (⟨sFrom.toArray⟩ : ByteArray) p _ H1.out hp (by omega) (by decide)).mono ?_
 rw [show (⟨sFrom.toArray⟩ : ByteArray).data.toList = sFrom from rfl, hp2]
 rintro e w2 ⟨v, rfl, rfl, hP2, hg2⟩
 clear hp2
 obtain ⟨a, ha⟩ : ∃ a, rNum s.data.toList p2 = a := ⟨_, rfl⟩
 have HA := Lib.hid ha
 have nba := rNum_bd s.data.toList p2
 have npa := rNum_pos s.data.toList p2 (by rw [← size_list]; exact hpp2.2)
 rw [ha] at nba npa
 rw [← size_list] at npa
 go_wp2_with fail
 refine (refNum_any g s p2 _ hP2 hpp2.2 (by omega)).mono ?_
 rw [ha]
 rintro e w3 ⟨v, rfl, rfl, hP3, hg3⟩
 have hz2 := hg2.size
 have hz3 := hg3.size
 have wra : IntKind.i64.wrap (a.1 - 1) = a.1 - 1 := IntWalk.i64_in _ (by omega)
 obtain ⟨W, hW⟩ : ∃ W : World, W = (w3.alloc (.cells #[.int .i64 (a.1 - 1)] 3)).alloc (.cells #[.int .i64 0, .slice (some ⟨w3.heap.size, 0, none⟩) 1 1, .slice none 0 0, .slice none 0 0] 27) := ⟨_, rfl⟩
 obtain ⟨sb, hsb⟩ : ∃ sb, w3.heap.size + 1 = sb := ⟨_, rfl⟩
 obtain ⟨rb, hrb⟩ : ∃ rb, w.heap.size = rb := ⟨_, rfl⟩
 have hne : sb ≠ g := by omega
 have hgrb : g < w.heap.size ∧ w.heap.size ≤ rb := ⟨hgl, by omega⟩
 have HB0 := Lib.hid (show RefSt g sb rb s w 0 [a.1 - 1] [] (.slice (some ⟨w3.heap.size, 0, none⟩) 1 1) (.slice none 0 0) (fun b => b = w3.heap.size) (fun _ => False) a.2 W by
  have hWs : W.heap.size = w3.heap.size + 2 := by rw [hW]; simp
  have hB : Below w3.heap.size w3 W := by rw [hW]; exact bel
  have i0 := intNew w3 [a.1 - 1] (by simp [maxLen]) (by intro n hn; simp only [List.mem_singleton] at hn; subst hn; exact ⟨by omega, by omega⟩)
  refine ⟨hP3.below hB, ⟨?_, ?_, OwnRow.nil _ _ _ _ _, fun b e => ⟨by omega, by omega, by omega, by omega, fun h => h⟩, fun b e => e.elim⟩, ?_, ?_, npa.1, by omega⟩
  ·rw [← hsb, hW]
   have := heap_alloc_new (w3.alloc (.cells #[.int .i64 (a.1 - 1)] 3)) (.cells #[.int .i64 0, .slice (some ⟨w3.heap.size, 0, none⟩) 1 1, .slice none 0 0, .slice none 0 0] 27)
   simpa using this
  ·rw [hW]
   have := i0.later ((Below.refl _ _).alloc (Nat.le_refl _) (.cells #[.int .i64 0, .slice (some ⟨w3.heap.size, 0, none⟩) 1 1, .slice none 0 0, .slice none 0 0] 27))
   simpa [intW] using this
  ·exact (hB.block rb (by omega)).trans ((hg3.block rb (by omega) (by simp; omega)).trans ((hg2.block rb (by omega) (by simp; omega)).trans (hrb ▸ HRG.out.1)))
  ·exact gr_below (gr_trans (gr_trans HRG.out.2 hg2) hg3) hB)
 have HRO := Lib.hid (show rOrg s.data.toList p = if pTake s.data.toList sAnd a.2 then rRest s.data.toList [a.1 - 1, (rNum s.data.toList (pAdv sAnd a.2)).1 - 1] (rNum s.data.toList (pAdv sAnd a.2)).2 else rRest s.data.toList [a.1 - 1] a.2 by simp only [rOrg, HT.out, HP2.out, HA.out, Bool.false_eq_true, if_false])
 clear hP2 hg2 hP3 hg3 ha
 go_wp2_with fail
 rw [← hW]
 have h4 : FourT [(4, 3, decV)] 3 5 6 8 := ⟨⟨by decide, by decide⟩, fun i hi => by rcases hi with rfl | rfl | rfl | rfl <;> rfl⟩
 refine (refTake_any g s (⟨sAnd.toArray⟩ : ByteArray) a.2 _ HB0.out.rd HB0.out.pos (by omega) (by decide)).mono ?_
 rw [show (⟨sAnd.toArray⟩ : ByteArray).data.toList = sAnd from rfl]
 rintro e wt ⟨v, rfl, rfl, hPt, hgt⟩
 cases hTA : pTake s.data.toList sAnd a.2
 case' false =>
  rw [hTA, if_neg (by simp)] at hPt
  have HBE := Lib.hid (HB0.out.step hPt hgt HB0.out.pos hne hgrb)
  clear hPt hgt
  have HROE := Lib.hid (show rOrg s.data.toList p = rRest s.data.toList [a.1 - 1] a.2 by rw [HRO.out, hTA, if_neg (by simp)])
  obtain ⟨PE, hPE⟩ : ∃ x, a.2 = x := ⟨_, rfl⟩
  obtain ⟨FE, hFE⟩ : ∃ x : Nat → Prop, (fun b => b = w3.heap.size) = x := ⟨_, rfl⟩
  have hpl : [a.1 - 1].length ≤ 2 ∧ 1 ≤ [a.1 - 1].length := ⟨by simp, by simp⟩
  obtain ⟨ps, hps⟩ : ∃ x, [a.1 - 1] = x := ⟨_, rfl⟩
  obtain ⟨vp, hvp⟩ : ∃ x, Value.slice (some ⟨w3.heap.size, 0, none⟩) 1 1 = x := ⟨_, rfl⟩
  rw [hPE, hFE, hps, hvp] at HBE
  rw [hPE, hps] at HROE
  rw [hps] at hpl
 case' true =>
  rw [hTA, if_pos rfl] at hPt
  have hpt := pTake_le hTA (by rw [← size_list]; exact HB0.out.pos)
  rw [← size_list] at hpt
  obtain ⟨p5, hp5⟩ : ∃ p5, pAdv sAnd a.2 = p5 := ⟨_, rfl⟩
  have hpt : p5.pos ≤ s.size := by rw [← hp5]; exact hpt
  have HP5 := Lib.hid hp5
  rw [hp5] at hPt
  have HB1 := Lib.hid (HB0.out.step hPt hgt hpt hne hgrb)
  clear hPt hgt hp5
  go_wp2_with fail
  obtain ⟨b, hb⟩ : ∃ b, rNum s.data.toList p5 = b := ⟨_, rfl⟩
  have HNb := Lib.hid hb
  have nbb := rNum_bd s.data.toList p5
  have wrb : IntKind.i64.wrap (b.1 - 1) = b.1 - 1 := IntWalk.i64_in _ (by rw [hb] at nbb; omega)
  have npb := rNum_pos s.data.toList p5 (by rw [← size_list]; exact HB1.out.pos)
  rw [hb] at nbb npb
  rw [← size_list] at npb
  have zgb := bsz HB1.out.rd.lt
  have zsb := bsz (blk_lt HB1.out.st.box)
  clear hb
  refine wp_region_app 3 (RdH g s p5) (RdH g s b.2) 1 #[.int .i64 0, (.slice (some ⟨w3.heap.size, 0, none⟩) 1 1), (.slice none 0 0), .slice none 0 0] 27 (.slice (some ⟨w3.heap.size, 0, none⟩) 1 1) [a.1 - 1] 3 5 6 8 b.1 (b.1 - 1) [(4, 3, decV)] [some (.pointer (some ⟨sb, 1, none⟩)), some (.slice (some ⟨w3.heap.size, 0, none⟩) 1 1), some (.pointer (some ⟨g, 0, none⟩)), none, none, none, none, some (.pointer (some ⟨sb, 1, none⟩)), none] (by kernel_rfl) (by kernel_rfl) (by simp) HB1.out.st.ps HB1.out.fps HB1.out.st.box ⟨HB1.out.rd, rfl⟩ HB1.out.rd.lt hne ?_
  go_simp
  refine flowV_st rfl rfl (by
   intro u' L w' hun hbe hD
   go_simp
   first | exact ⟨hD.other rfl hbe hun (by rfl) (by rfl), rfl⟩ | exact hD.other rfl hbe hun (by rfl) (by rfl)) ?_
  go_simp
  refine flowV_st rfl rfl (by
   intro u' L w' hun hbe hD
   have hbx := AiD.bx hD (by simp) hun (by kernel_rfl)
   obtain ⟨c0, c1, c2, cf⟩ := StB.cells hbx
   have zk := bsz (blk_lt hbx)
   clear hbx
   go_simp
   first | exact ⟨hD.other rfl hbe hun (by rfl) (by rfl), rfl⟩ | exact hD.other rfl hbe hun (by rfl) (by rfl)) ?_
  go_simp
  refine flowV_st rfl rfl (by
   intro u' L w' hun hbe hD
   go_simp
   first | exact ⟨hD.other rfl hbe hun (by rfl) (by rfl), rfl⟩ | exact hD.other rfl hbe hun (by rfl) (by rfl)) ?_
  go_simp
  refine flowV_ch rfl rfl (by
   intro u' hu' L w' hun hbe hD
   obtain ⟨F, ⟨hP, hFg⟩, hF, hcall⟩ := AiD.call hD (RdH.stab _ _ _) (RdH.stab _ _ _) h4 (by kernel_rfl) rfl hbe hun
   go_simp
   refine (refNum_any g s p5 w' hP HB1.out.pos (by omega)).mono ?_
   rw [HNb.out]
   rintro e w'' ⟨v, rfl, rfl, hP2, hg2⟩
   exact ⟨_, rfl, hcall w'' F ((Kp.of_gr hg2).mono (fun b e => by injection e with e; subst e; exact .inl hFg)) (fun b e => .inl e) (fun b e => Nat.lt_of_lt_of_le (hF b e).2 hg2.size) ⟨hP2, hFg⟩⟩) ?_
  intro x3
  go_simp
  refine flowV_ch rfl rfl (by
   intro u' hu' L w' hun hbe hD
   have d := after_behind hbe (p := 3) (by kernel_rfl)
   have e3 : u' 3 = x3 := (after_eq hu' (p := 3) (by kernel_rfl)).trans (by simp [upd])
   have hv := AiD.val hD h4 d
   have hst := AiD.dec hD (RdH.stab _ _ _) (RdH.stab _ _ _) h4.f (by kernel_rfl) rfl hbe hun (by rfl) d
   rw [hv] at hst
   obtain rfl : x3 = .int .i64 b.1 := e3.symm.trans hv
   first | (go_simp; done) | (go_simp; exact hst)) ?_
  intro x4
  go_simp
  refine flowV_ch rfl rfl (by
   intro u' hu' L w' hun hbe hD
   have d := after_behind hbe (p := 4) (by kernel_rfl)
   have d3 := AiD.dech hD d
   have e4 : u' 4 = x4 := (after_eq hu' (p := 4) (by kernel_rfl)).trans (by simp [upd])
   have hv := (AiD.decv hD d).trans (congrArg decV (AiD.val hD h4 d3))
   have hst := AiD.build hD (RdH.stab _ _ _) (RdH.stab _ _ _) h4 (by kernel_rfl) rfl hbe hun
   obtain rfl : x4 = .int .i64 (b.1 - 1) := e4.symm.trans hv
   first | (go_simp; done) | (go_simp; exact hst)) ?_
  intro x5
  go_simp
  refine flowV_ch rfl rfl (by
   intro u' hu' L w' hun hbe hD
   have e5 : u' 5 = x5 := (after_eq hu' (p := 5) (by kernel_rfl)).trans (by simp [upd])
   exact AiD.app hD (RdH.stab _ _ _) (RdH.stab _ _ _) ⟨by omega, by omega⟩ h4 (by kernel_rfl) rfl hbe hun _ _ _ rfl 8 elemIntE rfl e5.symm (by first | omega | (simp; done) | (simp; omega)) (by unfold maxLen; first | omega | (simp; done) | (simp; omega))) ?_
  intro x6
  go_simp
  refine flowV_st rfl rfl (by
   intro u' L w' hun hbe hD
   go_simp
   first | exact ⟨hD.other rfl hbe hun (by rfl) (by rfl), rfl⟩ | exact hD.other rfl hbe hun (by rfl) (by rfl)) ?_
  go_simp
  refine flowV_ch rfl rfl (by
   intro u' hu' L w' hun hbe hD
   have e6 : u' 6 = x6 := (after_eq hu' (p := 6) (by kernel_rfl)).trans (by simp [upd])
   obtain ⟨hbx, ⟨p8, c8, h8⟩, hst⟩ := AiD.put hD (RdH.stab _ _ _) (RdH.stab _ _ _) h4 (by kernel_rfl) rfl hbe hun
   have hst := hst undef
   rw [h8] at hst
   obtain rfl : x6 = _ := e6.symm.trans h8
   try simp only [List.length_cons, List.length_nil] at hst ⊢
   obtain ⟨c0, c1, c2, cf⟩ := StB.cells hbx
   have zk := bsz (blk_lt hbx)
   clear hbx
   first | (go_simp; done) | (go_simp; exact hst)) ?_
  intro x8
  refine flowV_nil ?_
  intro L wnb hL hD
  obtain ⟨hk1, FR, ⟨hP1, hFg⟩, hF, Fb, hrow, hbx, hF1⟩ := AiD.end (N := 9) hD h4 rfl (fun i hi => by simpa using hL i (by simpa using hi))
  rw [show upd (upd (upd (upd (upd (fun _ => undef) 3 x3) 4 x4) 5 x5) 6 x6) 8 x8 6 = x6 by simp [upd]] at hrow hbx
  have HBE := Lib.hid (HB1.out.app_ps hk1 hP1 hrow (by simpa using hbx) (fun b e => ⟨(hF1 b e).1, (hF1 b e).2.1, (hF1 b e).2.2.1, fun e' => (hF1 b e).2.2.2 (e' ▸ hFg)⟩) npb.1 hne hgrb)
  clear hL hD hk1 hP1 hFg hF hrow hbx hF1
  have HROE := Lib.hid (show rOrg s.data.toList p = rRest s.data.toList ([a.1 - 1] ++ [b.1 - 1]) b.2 by rw [HRO.out, hTA, if_pos rfl, HP5.out, HNb.out]; rfl)
  obtain ⟨PE, hPE⟩ : ∃ x, b.2 = x := ⟨_, rfl⟩
  obtain ⟨FE, hFE⟩ : ∃ x : Nat → Prop, Fb = x := ⟨_, rfl⟩
  have hpl : ([a.1 - 1] ++ [b.1 - 1]).length ≤ 2 ∧ 1 ≤ ([a.1 - 1] ++ [b.1 - 1]).length := ⟨by simp, by simp⟩
  obtain ⟨ps, hps⟩ : ∃ x, [a.1 - 1] ++ [b.1 - 1] = x := ⟨_, rfl⟩
  obtain ⟨vp, hvp⟩ : ∃ x, x6 = x := ⟨_, rfl⟩
  rw [hPE, hFE, hps, hvp] at HBE
  rw [hPE, hps] at HROE
  rw [hps] at hpl
 all_goals
  obtain ⟨q0, k0, rfl, -⟩ := HBE.out.st.ps.form
  obtain ⟨FN, hFN⟩ : ∃ x : Nat → Prop, (fun _ => False) = x := ⟨_, rfl⟩
  rw [hFN] at HBE
  go_wp2_with fail
  refine (refTake_any g s (⟨(sResL).toArray⟩ : ByteArray) PE _ HBE.out.rd HBE.out.pos (by omega) (by decide)).mono ?_
  rw [show (⟨(sResL).toArray⟩ : ByteArray).data.toList = sResL from rfl]
  rintro e wt ⟨v, rfl, rfl, hPt, hgt⟩
  cases hT2 : pTake s.data.toList sResL PE
  case true =>
   rw [hT2, if_pos rfl] at hPt
   have hpt := pTake_le hT2 (by rw [← size_list]; exact HBE.out.pos)
   rw [← size_list] at hpt
   obtain ⟨p5, hp5⟩ : ∃ p5, pAdv sResL PE = p5 := ⟨_, rfl⟩
   have hpt : p5.pos ≤ s.size := by rw [← hp5]; exact hpt
   have HP5 := Lib.hid hp5
   rw [hp5] at hPt
   have HB1 := Lib.hid (HBE.out.step hPt hgt hpt hne hgrb)
   clear hPt hgt hp5
   obtain ⟨c0, c1, c2, c3, cf⟩ := stp_cells HB1.out.st.box
   have zc := bsz (blk_lt HB1.out.st.box)
   have HB2 := Lib.hid (HB1.out.setRule 2 hne hgrb)
   go_wp2_with fail
   clear c0 c1 c2 c3 cf
   obtain ⟨b, hb⟩ : ∃ b, rNum s.data.toList p5 = b := ⟨_, rfl⟩
   have HNb := Lib.hid hb
   have nbb := rNum_bd s.data.toList p5
   have wrb : IntKind.i64.wrap (b.1 - 1) = b.1 - 1 := IntWalk.i64_in _ (by rw [hb] at nbb; omega)
   have npb := rNum_pos s.data.toList p5 (by rw [← size_list]; exact HB2.out.pos)
   rw [hb] at nbb npb
   rw [← size_list] at npb
   have zgb := bsz HB2.out.rd.lt
   have zsb := bsz (blk_lt HB2.out.st.box)
   clear hb
   refine wp_region_app 3 (RdH g s p5) (RdH g s b.2) 2 #[.int .i64 2, (.slice q0 ps.length k0), (.slice none 0 0), .slice none 0 0] 27 (.slice none 0 0) [] 3 5 6 8 b.1 (b.1 - 1) [(4, 3, decV)] [some (.pointer (some ⟨sb, 2, none⟩)), some (.slice none 0 0), some (.pointer (some ⟨g, 0, none⟩)), none, none, none, none, some (.pointer (some ⟨sb, 2, none⟩)), none] (by kernel_rfl) (by kernel_rfl) (by simp) HB2.out.st.wh HB2.out.fwh HB2.out.st.box ⟨HB2.out.rd, rfl⟩ HB2.out.rd.lt hne ?_
   go_simp
   refine flowV_st rfl rfl (by
    intro u' L w' hun hbe hD
    go_simp
    first | exact ⟨hD.other rfl hbe hun (by rfl) (by rfl), rfl⟩ | exact hD.other rfl hbe hun (by rfl) (by rfl)) ?_
   go_simp
   refine flowV_st rfl rfl (by
    intro u' L w' hun hbe hD
    have hbx := AiD.bx hD (by simp) hun (by kernel_rfl)
    obtain ⟨c0, c1, c2, cf⟩ := StB.cells hbx
    have zk := bsz (blk_lt hbx)
    clear hbx
    go_simp
    first | exact ⟨hD.other rfl hbe hun (by rfl) (by rfl), rfl⟩ | exact hD.other rfl hbe hun (by rfl) (by rfl)) ?_
   go_simp
   refine flowV_st rfl rfl (by
    intro u' L w' hun hbe hD
    go_simp
    first | exact ⟨hD.other rfl hbe hun (by rfl) (by rfl), rfl⟩ | exact hD.other rfl hbe hun (by rfl) (by rfl)) ?_
   go_simp
   refine flowV_ch rfl rfl (by
    intro u' hu' L w' hun hbe hD
    obtain ⟨F, ⟨hP, hFg⟩, hF, hcall⟩ := AiD.call hD (RdH.stab _ _ _) (RdH.stab _ _ _) h4 (by kernel_rfl) rfl hbe hun
    go_simp
    refine (refNum_any g s p5 w' hP HB2.out.pos (by omega)).mono ?_
    rw [HNb.out]
    rintro e w'' ⟨v, rfl, rfl, hP2, hg2⟩
    exact ⟨_, rfl, hcall w'' F ((Kp.of_gr hg2).mono (fun b e => by injection e with e; subst e; exact .inl hFg)) (fun b e => .inl e) (fun b e => Nat.lt_of_lt_of_le (hF b e).2 hg2.size) ⟨hP2, hFg⟩⟩) ?_
   intro x3
   go_simp
   refine flowV_ch rfl rfl (by
    intro u' hu' L w' hun hbe hD
    have d := after_behind hbe (p := 3) (by kernel_rfl)
    have e3 : u' 3 = x3 := (after_eq hu' (p := 3) (by kernel_rfl)).trans (by simp [upd])
    have hv := AiD.val hD h4 d
    have hst := AiD.dec hD (RdH.stab _ _ _) (RdH.stab _ _ _) h4.f (by kernel_rfl) rfl hbe hun (by rfl) d
    rw [hv] at hst
    obtain rfl : x3 = .int .i64 b.1 := e3.symm.trans hv
    first | (go_simp; done) | (go_simp; exact hst)) ?_
   intro x4
   go_simp
   refine flowV_ch rfl rfl (by
    intro u' hu' L w' hun hbe hD
    have d := after_behind hbe (p := 4) (by kernel_rfl)
    have d3 := AiD.dech hD d
    have e4 : u' 4 = x4 := (after_eq hu' (p := 4) (by kernel_rfl)).trans (by simp [upd])
    have hv := (AiD.decv hD d).trans (congrArg decV (AiD.val hD h4 d3))
    have hst := AiD.build hD (RdH.stab _ _ _) (RdH.stab _ _ _) h4 (by kernel_rfl) rfl hbe hun
    obtain rfl : x4 = .int .i64 (b.1 - 1) := e4.symm.trans hv
    first | (go_simp; done) | (go_simp; exact hst)) ?_
   intro x5
   go_simp
   refine flowV_ch rfl rfl (by
    intro u' hu' L w' hun hbe hD
    have e5 : u' 5 = x5 := (after_eq hu' (p := 5) (by kernel_rfl)).trans (by simp [upd])
    exact AiD.app hD (RdH.stab _ _ _) (RdH.stab _ _ _) ⟨by omega, by omega⟩ h4 (by kernel_rfl) rfl hbe hun _ _ _ rfl 8 elemIntE rfl e5.symm (by first | omega | (simp; done) | (simp; omega)) (by unfold maxLen; first | omega | (simp; done) | (simp; omega))) ?_
   intro x6
   go_simp
   refine flowV_st rfl rfl (by
    intro u' L w' hun hbe hD
    go_simp
    first | exact ⟨hD.other rfl hbe hun (by rfl) (by rfl), rfl⟩ | exact hD.other rfl hbe hun (by rfl) (by rfl)) ?_
   go_simp
   refine flowV_ch rfl rfl (by
    intro u' hu' L w' hun hbe hD
    have e6 : u' 6 = x6 := (after_eq hu' (p := 6) (by kernel_rfl)).trans (by simp [upd])
    obtain ⟨hbx, ⟨p8, c8, h8⟩, hst⟩ := AiD.put hD (RdH.stab _ _ _) (RdH.stab _ _ _) h4 (by kernel_rfl) rfl hbe hun
    have hst := hst undef
    rw [h8] at hst
    obtain rfl : x6 = _ := e6.symm.trans h8
    try simp only [List.length_cons, List.length_nil] at hst ⊢
    obtain ⟨c0, c1, c2, cf⟩ := StB.cells hbx
    have zk := bsz (blk_lt hbx)
    clear hbx
    first | (go_simp; done) | (go_simp; exact hst)) ?_
   intro x8
   refine flowV_nil ?_
   intro L wnb hL hD
   obtain ⟨hk1, FR, ⟨hP1, hFg⟩, hF, Fb, hrow, hbx, hF1⟩ := AiD.end (N := 9) hD h4 rfl (fun i hi => by simpa using hL i (by simpa using hi))
   rw [show upd (upd (upd (upd (upd (fun _ => undef) 3 x3) 4 x4) 5 x5) 6 x6) 8 x8 6 = x6 by simp [upd]] at hrow hbx
   have HB3 := Lib.hid (HB2.out.app_wh hk1 hP1 hrow (by simpa using hbx) (fun b e => ⟨(hF1 b e).1, (hF1 b e).2.1, (hF1 b e).2.2.1, fun e' => (hF1 b e).2.2.2 (e' ▸ hFg)⟩) npb.1 hne hgrb)
   clear hL hD hk1 hP1 hFg hF hrow hbx hF1
   obtain ⟨q1, k1, rfl, -⟩ := HB3.out.st.wh.form
   obtain ⟨p6, hp6⟩ : ∃ p6, pMust s.data.toList sWithL b.2 = p6 := ⟨_, rfl⟩
   have HP6 := Lib.hid hp6
   go_wp2_with fail
   refine (refWant_any g s (⟨(sWithL).toArray⟩ : ByteArray) b.2 _ HB3.out.rd HB3.out.pos (by omega) (by decide)).mono ?_
   rw [show (⟨(sWithL).toArray⟩ : ByteArray).data.toList = sWithL from rfl, hp6]
   rintro e wmp6 ⟨v, rfl, rfl, hPn, hgn⟩
   have HB4 := Lib.hid (HB3.out.step hPn hgn (by have := pMust_pos s.data.toList sWithL b.2 (by rw [← size_list]; exact HB3.out.pos); rw [hp6, ← size_list] at this; exact this.2) hne hgrb)
   have HGp6 := Lib.hid hgn
   clear hPn hgn hp6
   go_wp2_with fail
   obtain ⟨c, hc⟩ : ∃ c, rNum s.data.toList p6 = c := ⟨_, rfl⟩
   have HNc := Lib.hid hc
   have nbc := rNum_bd s.data.toList p6
   have wrc : IntKind.i64.wrap (c.1 - 1) = c.1 - 1 := IntWalk.i64_in _ (by rw [hc] at nbc; omega)
   have npc := rNum_pos s.data.toList p6 (by rw [← size_list]; exact HB4.out.pos)
   rw [hc] at nbc npc
   rw [← size_list] at npc
   have zgc := bsz HB4.out.rd.lt
   have zsc := bsz (blk_lt HB4.out.st.box)
   clear hc
   refine wp_region_app 3 (RdH g s p6) (RdH g s c.2) 2 #[.int .i64 2, (.slice q0 ps.length k0), (.slice q1 ([] ++ [b.1 - 1] : List Int).length k1), .slice none 0 0] 27 (.slice q1 ([] ++ [b.1 - 1] : List Int).length k1) ([] ++ [b.1 - 1] : List Int) 3 5 6 8 c.1 (c.1 - 1) [(4, 3, decV)] [some (.pointer (some ⟨sb, 2, none⟩)), some (.slice q1 ([] ++ [b.1 - 1] : List Int).length k1), some (.pointer (some ⟨g, 0, none⟩)), none, none, none, none, some (.pointer (some ⟨sb, 2, none⟩)), none] (by kernel_rfl) (by kernel_rfl) (by simp) HB4.out.st.wh HB4.out.fwh HB4.out.st.box ⟨HB4.out.rd, rfl⟩ HB4.out.rd.lt hne ?_
   go_simp
   refine flowV_st rfl rfl (by
    intro u' L w' hun hbe hD
    go_simp
    first | exact ⟨hD.other rfl hbe hun (by rfl) (by rfl), rfl⟩ | exact hD.other rfl hbe hun (by rfl) (by rfl)) ?_
   go_simp
   refine flowV_st rfl rfl (by
    intro u' L w' hun hbe hD
    have hbx := AiD.bx hD (by simp) hun (by kernel_rfl)
    obtain ⟨c0, c1, c2, cf⟩ := StB.cells hbx
    have zk := bsz (blk_lt hbx)
    clear hbx
    go_simp
    first | exact ⟨hD.other rfl hbe hun (by rfl) (by rfl), rfl⟩ | exact hD.other rfl hbe hun (by rfl) (by rfl)) ?_
   go_simp
   refine flowV_st rfl rfl (by
    intro u' L w' hun hbe hD
    go_simp
    first | exact ⟨hD.other rfl hbe hun (by rfl) (by rfl), rfl⟩ | exact hD.other rfl hbe hun (by rfl) (by rfl)) ?_
   go_simp
   refine flowV_ch rfl rfl (by
    intro u' hu' L w' hun hbe hD
    obtain ⟨F, ⟨hP, hFg⟩, hF, hcall⟩ := AiD.call hD (RdH.stab _ _ _) (RdH.stab _ _ _) h4 (by kernel_rfl) rfl hbe hun
    go_simp
    refine (refNum_any g s p6 w' hP HB4.out.pos (by omega)).mono ?_
    rw [HNc.out]
    rintro e w'' ⟨v, rfl, rfl, hP2, hg2⟩
    exact ⟨_, rfl, hcall w'' F ((Kp.of_gr hg2).mono (fun b e => by injection e with e; subst e; exact .inl hFg)) (fun b e => .inl e) (fun b e => Nat.lt_of_lt_of_le (hF b e).2 hg2.size) ⟨hP2, hFg⟩⟩) ?_
   intro x3
   go_simp
   refine flowV_ch rfl rfl (by
    intro u' hu' L w' hun hbe hD
    have d := after_behind hbe (p := 3) (by kernel_rfl)
    have e3 : u' 3 = x3 := (after_eq hu' (p := 3) (by kernel_rfl)).trans (by simp [upd])
    have hv := AiD.val hD h4 d
    have hst := AiD.dec hD (RdH.stab _ _ _) (RdH.stab _ _ _) h4.f (by kernel_rfl) rfl hbe hun (by rfl) d
    rw [hv] at hst
    obtain rfl : x3 = .int .i64 c.1 := e3.symm.trans hv
    first | (go_simp; done) | (go_simp; exact hst)) ?_
   intro x4
   go_simp
   refine flowV_ch rfl rfl (by
    intro u' hu' L w' hun hbe hD
    have d := after_behind hbe (p := 4) (by kernel_rfl)
    have d3 := AiD.dech hD d
    have e4 : u' 4 = x4 := (after_eq hu' (p := 4) (by kernel_rfl)).trans (by simp [upd])
    have hv := (AiD.decv hD d).trans (congrArg decV (AiD.val hD h4 d3))
    have hst := AiD.build hD (RdH.stab _ _ _) (RdH.stab _ _ _) h4 (by kernel_rfl) rfl hbe hun
    obtain rfl : x4 = .int .i64 (c.1 - 1) := e4.symm.trans hv
    first | (go_simp; done) | (go_simp; exact hst)) ?_
   intro x5
   go_simp
   refine flowV_ch rfl rfl (by
    intro u' hu' L w' hun hbe hD
    have e5 : u' 5 = x5 := (after_eq hu' (p := 5) (by kernel_rfl)).trans (by simp [upd])
    exact AiD.app hD (RdH.stab _ _ _) (RdH.stab _ _ _) ⟨by omega, by omega⟩ h4 (by kernel_rfl) rfl hbe hun _ _ _ rfl 8 elemIntE rfl e5.symm (by first | omega | (simp; done) | (simp; omega)) (by unfold maxLen; first | omega | (simp; done) | (simp; omega))) ?_
   intro x6
   go_simp
   refine flowV_st rfl rfl (by
    intro u' L w' hun hbe hD
    go_simp
    first | exact ⟨hD.other rfl hbe hun (by rfl) (by rfl), rfl⟩ | exact hD.other rfl hbe hun (by rfl) (by rfl)) ?_
   go_simp
   refine flowV_ch rfl rfl (by
    intro u' hu' L w' hun hbe hD
    have e6 : u' 6 = x6 := (after_eq hu' (p := 6) (by kernel_rfl)).trans (by simp [upd])
    obtain ⟨hbx, ⟨p8, c8, h8⟩, hst⟩ := AiD.put hD (RdH.stab _ _ _) (RdH.stab _ _ _) h4 (by kernel_rfl) rfl hbe hun
    have hst := hst undef
    rw [h8] at hst
    obtain rfl : x6 = _ := e6.symm.trans h8
    try simp only [List.length_cons, List.length_nil] at hst ⊢
    obtain ⟨c0, c1, c2, cf⟩ := StB.cells hbx
    have zk := bsz (blk_lt hbx)
    clear hbx
    first | (go_simp; done) | (go_simp; exact hst)) ?_
   intro x8
   refine flowV_nil ?_
   intro L wnc hL hD
   obtain ⟨hk1, FR, ⟨hP1, hFg⟩, hF, Fc, hrow, hbx, hF1⟩ := AiD.end (N := 9) hD h4 rfl (fun i hi => by simpa using hL i (by simpa using hi))
   rw [show upd (upd (upd (upd (upd (fun _ => undef) 3 x3) 4 x4) 5 x5) 6 x6) 8 x8 6 = x6 by simp [upd]] at hrow hbx
   have HB5 := Lib.hid (HB4.out.app_wh hk1 hP1 hrow (by simpa using hbx) (fun b e => ⟨(hF1 b e).1, (hF1 b e).2.1, (hF1 b e).2.2.1, fun e' => (hF1 b e).2.2.2 (e' ▸ hFg)⟩) npc.1 hne hgrb)
   clear hL hD hk1 hP1 hFg hF hrow hbx hF1
   obtain ⟨q2, k2, rfl, -⟩ := HB5.out.st.wh.form
   have HRS := Lib.hid (show rOrg s.data.toList p = (⟨2, ps, [] ++ [b.1 - 1] ++ [c.1 - 1], []⟩, c.2) by rw [HROE.out, rRest, if_pos hT2, rTwo]; simp only [HP5.out, HNb.out, HP6.out, HNc.out]; rfl)
   obtain ⟨c0, c1, c2, c3, cf⟩ := stp_cells HB5.out.st.box
   have zc := bsz (blk_lt HB5.out.st.box)
   obtain ⟨r0, r1, r2, r3, rf⟩ := stp_cells HB5.out.res
   have zr := bsz (blk_lt HB5.out.res)
   go_wp2
   refine bodyPost_ret (v := .agg #[.int .i64 2, (.slice q0 ps.length k0), (.slice q2 ([] ++ [b.1 - 1] ++ [c.1 - 1]).length k2), .slice none 0 0]) (by simp only [results, Tryz.results26]; go_simp) rfl ?_
   rw [HRS.out]
   exact RefSt.hand HB5.out hgrb _ _ _ _
  rw [hT2, if_neg (by simp)] at hPt
  have HBF := Lib.hid (HBE.out.step hPt hgt HBE.out.pos hne hgrb)
  clear hPt hgt
  go_wp2_with fail
  refine (refTake_any g s (⟨(sMerge).toArray⟩ : ByteArray) PE _ HBF.out.rd HBF.out.pos (by omega) (by decide)).mono ?_
  rw [show (⟨(sMerge).toArray⟩ : ByteArray).data.toList = sMerge from rfl]
  rintro e wt ⟨v, rfl, rfl, hPt, hgt⟩
  cases hT3 : pTake s.data.toList sMerge PE
  case true =>
   rw [hT3, if_pos rfl] at hPt
   have hpt := pTake_le hT3 (by rw [← size_list]; exact HBF.out.pos)
   rw [← size_list] at hpt
   obtain ⟨p5, hp5⟩ : ∃ p5, pAdv sMerge PE = p5 := ⟨_, rfl⟩
   have hpt : p5.pos ≤ s.size := by rw [← hp5]; exact hpt
   have HP5 := Lib.hid hp5
   rw [hp5] at hPt
   have HB1 := Lib.hid (HBF.out.step hPt hgt hpt hne hgrb)
   clear hPt hgt hp5
   obtain ⟨c0, c1, c2, c3, cf⟩ := stp_cells HB1.out.st.box
   have zc := bsz (blk_lt HB1.out.st.box)
   have HB2 := Lib.hid (HB1.out.setRule 3 hne hgrb)
   go_wp2_with fail
   clear c0 c1 c2 c3 cf
   obtain ⟨b, hb⟩ : ∃ b, rNum s.data.toList p5 = b := ⟨_, rfl⟩
   have HNb := Lib.hid hb
   have nbb := rNum_bd s.data.toList p5
   have wrb : IntKind.i64.wrap (b.1 - 1) = b.1 - 1 := IntWalk.i64_in _ (by rw [hb] at nbb; omega)
   have npb := rNum_pos s.data.toList p5 (by rw [← size_list]; exact HB2.out.pos)
   rw [hb] at nbb npb
   rw [← size_list] at npb
   have zgb := bsz HB2.out.rd.lt
   have zsb := bsz (blk_lt HB2.out.st.box)
   clear hb
   refine wp_region_app 3 (RdH g s p5) (RdH g s b.2) 2 #[.int .i64 3, (.slice q0 ps.length k0), (.slice none 0 0), .slice none 0 0] 27 (.slice none 0 0) [] 3 5 6 8 b.1 (b.1 - 1) [(4, 3, decV)] [some (.pointer (some ⟨sb, 2, none⟩)), some (.slice none 0 0), some (.pointer (some ⟨g, 0, none⟩)), none, none, none, none, some (.pointer (some ⟨sb, 2, none⟩)), none] (by kernel_rfl) (by kernel_rfl) (by simp) HB2.out.st.wh HB2.out.fwh HB2.out.st.box ⟨HB2.out.rd, rfl⟩ HB2.out.rd.lt hne ?_
   go_simp
   refine flowV_st rfl rfl (by
    intro u' L w' hun hbe hD
    go_simp
    first | exact ⟨hD.other rfl hbe hun (by rfl) (by rfl), rfl⟩ | exact hD.other rfl hbe hun (by rfl) (by rfl)) ?_
   go_simp
   refine flowV_st rfl rfl (by
    intro u' L w' hun hbe hD
    have hbx := AiD.bx hD (by simp) hun (by kernel_rfl)
    obtain ⟨c0, c1, c2, cf⟩ := StB.cells hbx
    have zk := bsz (blk_lt hbx)
    clear hbx
    go_simp
    first | exact ⟨hD.other rfl hbe hun (by rfl) (by rfl), rfl⟩ | exact hD.other rfl hbe hun (by rfl) (by rfl)) ?_
   go_simp
   refine flowV_st rfl rfl (by
    intro u' L w' hun hbe hD
    go_simp
    first | exact ⟨hD.other rfl hbe hun (by rfl) (by rfl), rfl⟩ | exact hD.other rfl hbe hun (by rfl) (by rfl)) ?_
   go_simp
   refine flowV_ch rfl rfl (by
    intro u' hu' L w' hun hbe hD
    obtain ⟨F, ⟨hP, hFg⟩, hF, hcall⟩ := AiD.call hD (RdH.stab _ _ _) (RdH.stab _ _ _) h4 (by kernel_rfl) rfl hbe hun
    go_simp
    refine (refNum_any g s p5 w' hP HB2.out.pos (by omega)).mono ?_
    rw [HNb.out]
    rintro e w'' ⟨v, rfl, rfl, hP2, hg2⟩
    exact ⟨_, rfl, hcall w'' F ((Kp.of_gr hg2).mono (fun b e => by injection e with e; subst e; exact .inl hFg)) (fun b e => .inl e) (fun b e => Nat.lt_of_lt_of_le (hF b e).2 hg2.size) ⟨hP2, hFg⟩⟩) ?_
   intro x3
   go_simp
   refine flowV_ch rfl rfl (by
    intro u' hu' L w' hun hbe hD
    have d := after_behind hbe (p := 3) (by kernel_rfl)
    have e3 : u' 3 = x3 := (after_eq hu' (p := 3) (by kernel_rfl)).trans (by simp [upd])
    have hv := AiD.val hD h4 d
    have hst := AiD.dec hD (RdH.stab _ _ _) (RdH.stab _ _ _) h4.f (by kernel_rfl) rfl hbe hun (by rfl) d
    rw [hv] at hst
    obtain rfl : x3 = .int .i64 b.1 := e3.symm.trans hv
    first | (go_simp; done) | (go_simp; exact hst)) ?_
   intro x4
   go_simp
   refine flowV_ch rfl rfl (by
    intro u' hu' L w' hun hbe hD
    have d := after_behind hbe (p := 4) (by kernel_rfl)
    have d3 := AiD.dech hD d
    have e4 : u' 4 = x4 := (after_eq hu' (p := 4) (by kernel_rfl)).trans (by simp [upd])
    have hv := (AiD.decv hD d).trans (congrArg decV (AiD.val hD h4 d3))
    have hst := AiD.build hD (RdH.stab _ _ _) (RdH.stab _ _ _) h4 (by kernel_rfl) rfl hbe hun
    obtain rfl : x4 = .int .i64 (b.1 - 1) := e4.symm.trans hv
    first | (go_simp; done) | (go_simp; exact hst)) ?_
   intro x5
   go_simp
   refine flowV_ch rfl rfl (by
    intro u' hu' L w' hun hbe hD
    have e5 : u' 5 = x5 := (after_eq hu' (p := 5) (by kernel_rfl)).trans (by simp [upd])
    exact AiD.app hD (RdH.stab _ _ _) (RdH.stab _ _ _) ⟨by omega, by omega⟩ h4 (by kernel_rfl) rfl hbe hun _ _ _ rfl 8 elemIntE rfl e5.symm (by first | omega | (simp; done) | (simp; omega)) (by unfold maxLen; first | omega | (simp; done) | (simp; omega))) ?_
   intro x6
   go_simp
   refine flowV_st rfl rfl (by
    intro u' L w' hun hbe hD
    go_simp
    first | exact ⟨hD.other rfl hbe hun (by rfl) (by rfl), rfl⟩ | exact hD.other rfl hbe hun (by rfl) (by rfl)) ?_
   go_simp
   refine flowV_ch rfl rfl (by
    intro u' hu' L w' hun hbe hD
    have e6 : u' 6 = x6 := (after_eq hu' (p := 6) (by kernel_rfl)).trans (by simp [upd])
    obtain ⟨hbx, ⟨p8, c8, h8⟩, hst⟩ := AiD.put hD (RdH.stab _ _ _) (RdH.stab _ _ _) h4 (by kernel_rfl) rfl hbe hun
    have hst := hst undef
    rw [h8] at hst
    obtain rfl : x6 = _ := e6.symm.trans h8
    try simp only [List.length_cons, List.length_nil] at hst ⊢
    obtain ⟨c0, c1, c2, cf⟩ := StB.cells hbx
    have zk := bsz (blk_lt hbx)
    clear hbx
    first | (go_simp; done) | (go_simp; exact hst)) ?_
   intro x8
   refine flowV_nil ?_
   intro L wnb hL hD
   obtain ⟨hk1, FR, ⟨hP1, hFg⟩, hF, Fb, hrow, hbx, hF1⟩ := AiD.end (N := 9) hD h4 rfl (fun i hi => by simpa using hL i (by simpa using hi))
   rw [show upd (upd (upd (upd (upd (fun _ => undef) 3 x3) 4 x4) 5 x5) 6 x6) 8 x8 6 = x6 by simp [upd]] at hrow hbx
   have HB3 := Lib.hid (HB2.out.app_wh hk1 hP1 hrow (by simpa using hbx) (fun b e => ⟨(hF1 b e).1, (hF1 b e).2.1, (hF1 b e).2.2.1, fun e' => (hF1 b e).2.2.2 (e' ▸ hFg)⟩) npb.1 hne hgrb)
   clear hL hD hk1 hP1 hFg hF hrow hbx hF1
   obtain ⟨q1, k1, rfl, -⟩ := HB3.out.st.wh.form
   obtain ⟨p6, hp6⟩ : ∃ p6, pMust s.data.toList sAnd b.2 = p6 := ⟨_, rfl⟩
   have HP6 := Lib.hid hp6
   go_wp2_with fail
   refine (refWant_any g s (⟨(sAnd).toArray⟩ : ByteArray) b.2 _ HB3.out.rd HB3.out.pos (by omega) (by decide)).mono ?_
   rw [show (⟨(sAnd).toArray⟩ : ByteArray).data.toList = sAnd from rfl, hp6]
   rintro e wmp6 ⟨v, rfl, rfl, hPn, hgn⟩
   have HB4 := Lib.hid (HB3.out.step hPn hgn (by have := pMust_pos s.data.toList sAnd b.2 (by rw [← size_list]; exact HB3.out.pos); rw [hp6, ← size_list] at this; exact this.2) hne hgrb)
   have HGp6 := Lib.hid hgn
   clear hPn hgn hp6
   go_wp2_with fail
   obtain ⟨c, hc⟩ : ∃ c, rNum s.data.toList p6 = c := ⟨_, rfl⟩
   have HNc := Lib.hid hc
   have nbc := rNum_bd s.data.toList p6
   have wrc : IntKind.i64.wrap (c.1 - 1) = c.1 - 1 := IntWalk.i64_in _ (by rw [hc] at nbc; omega)
   have npc := rNum_pos s.data.toList p6 (by rw [← size_list]; exact HB4.out.pos)
   rw [hc] at nbc npc
   rw [← size_list] at npc
   have zgc := bsz HB4.out.rd.lt
   have zsc := bsz (blk_lt HB4.out.st.box)
   clear hc
   refine wp_region_app 3 (RdH g s p6) (RdH g s c.2) 2 #[.int .i64 3, (.slice q0 ps.length k0), (.slice q1 ([] ++ [b.1 - 1] : List Int).length k1), .slice none 0 0] 27 (.slice q1 ([] ++ [b.1 - 1] : List Int).length k1) ([] ++ [b.1 - 1] : List Int) 3 5 6 8 c.1 (c.1 - 1) [(4, 3, decV)] [some (.pointer (some ⟨sb, 2, none⟩)), some (.slice q1 ([] ++ [b.1 - 1] : List Int).length k1), some (.pointer (some ⟨g, 0, none⟩)), none, none, none, none, some (.pointer (some ⟨sb, 2, none⟩)), none] (by kernel_rfl) (by kernel_rfl) (by simp) HB4.out.st.wh HB4.out.fwh HB4.out.st.box ⟨HB4.out.rd, rfl⟩ HB4.out.rd.lt hne ?_
   go_simp
   refine flowV_st rfl rfl (by
    intro u' L w' hun hbe hD
    go_simp
    first | exact ⟨hD.other rfl hbe hun (by rfl) (by rfl), rfl⟩ | exact hD.other rfl hbe hun (by rfl) (by rfl)) ?_
   go_simp
   refine flowV_st rfl rfl (by
    intro u' L w' hun hbe hD
    have hbx := AiD.bx hD (by simp) hun (by kernel_rfl)
    obtain ⟨c0, c1, c2, cf⟩ := StB.cells hbx
    have zk := bsz (blk_lt hbx)
    clear hbx
    go_simp
    first | exact ⟨hD.other rfl hbe hun (by rfl) (by rfl), rfl⟩ | exact hD.other rfl hbe hun (by rfl) (by rfl)) ?_
   go_simp
   refine flowV_st rfl rfl (by
    intro u' L w' hun hbe hD
    go_simp
    first | exact ⟨hD.other rfl hbe hun (by rfl) (by rfl), rfl⟩ | exact hD.other rfl hbe hun (by rfl) (by rfl)) ?_
   go_simp
   refine flowV_ch rfl rfl (by
    intro u' hu' L w' hun hbe hD
    obtain ⟨F, ⟨hP, hFg⟩, hF, hcall⟩ := AiD.call hD (RdH.stab _ _ _) (RdH.stab _ _ _) h4 (by kernel_rfl) rfl hbe hun
    go_simp
    refine (refNum_any g s p6 w' hP HB4.out.pos (by omega)).mono ?_
    rw [HNc.out]
    rintro e w'' ⟨v, rfl, rfl, hP2, hg2⟩
    exact ⟨_, rfl, hcall w'' F ((Kp.of_gr hg2).mono (fun b e => by injection e with e; subst e; exact .inl hFg)) (fun b e => .inl e) (fun b e => Nat.lt_of_lt_of_le (hF b e).2 hg2.size) ⟨hP2, hFg⟩⟩) ?_
   intro x3
   go_simp
   refine flowV_ch rfl rfl (by
    intro u' hu' L w' hun hbe hD
    have d := after_behind hbe (p := 3) (by kernel_rfl)
    have e3 : u' 3 = x3 := (after_eq hu' (p := 3) (by kernel_rfl)).trans (by simp [upd])
    have hv := AiD.val hD h4 d
    have hst := AiD.dec hD (RdH.stab _ _ _) (RdH.stab _ _ _) h4.f (by kernel_rfl) rfl hbe hun (by rfl) d
    rw [hv] at hst
    obtain rfl : x3 = .int .i64 c.1 := e3.symm.trans hv
    first | (go_simp; done) | (go_simp; exact hst)) ?_
   intro x4
   go_simp
   refine flowV_ch rfl rfl (by
    intro u' hu' L w' hun hbe hD
    have d := after_behind hbe (p := 4) (by kernel_rfl)
    have d3 := AiD.dech hD d
    have e4 : u' 4 = x4 := (after_eq hu' (p := 4) (by kernel_rfl)).trans (by simp [upd])
    have hv := (AiD.decv hD d).trans (congrArg decV (AiD.val hD h4 d3))
    have hst := AiD.build hD (RdH.stab _ _ _) (RdH.stab _ _ _) h4 (by kernel_rfl) rfl hbe hun
    obtain rfl : x4 = .int .i64 (c.1 - 1) := e4.symm.trans hv
    first | (go_simp; done) | (go_simp; exact hst)) ?_
   intro x5
   go_simp
   refine flowV_ch rfl rfl (by
    intro u' hu' L w' hun hbe hD
    have e5 : u' 5 = x5 := (after_eq hu' (p := 5) (by kernel_rfl)).trans (by simp [upd])
    exact AiD.app hD (RdH.stab _ _ _) (RdH.stab _ _ _) ⟨by omega, by omega⟩ h4 (by kernel_rfl) rfl hbe hun _ _ _ rfl 8 elemIntE rfl e5.symm (by first | omega | (simp; done) | (simp; omega)) (by unfold maxLen; first | omega | (simp; done) | (simp; omega))) ?_
   intro x6
   go_simp
   refine flowV_st rfl rfl (by
    intro u' L w' hun hbe hD
    go_simp
    first | exact ⟨hD.other rfl hbe hun (by rfl) (by rfl), rfl⟩ | exact hD.other rfl hbe hun (by rfl) (by rfl)) ?_
   go_simp
   refine flowV_ch rfl rfl (by
    intro u' hu' L w' hun hbe hD
    have e6 : u' 6 = x6 := (after_eq hu' (p := 6) (by kernel_rfl)).trans (by simp [upd])
    obtain ⟨hbx, ⟨p8, c8, h8⟩, hst⟩ := AiD.put hD (RdH.stab _ _ _) (RdH.stab _ _ _) h4 (by kernel_rfl) rfl hbe hun
    have hst := hst undef
    rw [h8] at hst
    obtain rfl : x6 = _ := e6.symm.trans h8
    try simp only [List.length_cons, List.length_nil] at hst ⊢
    obtain ⟨c0, c1, c2, cf⟩ := StB.cells hbx
    have zk := bsz (blk_lt hbx)
    clear hbx
    first | (go_simp; done) | (go_simp; exact hst)) ?_
   intro x8
   refine flowV_nil ?_
   intro L wnc hL hD
   obtain ⟨hk1, FR, ⟨hP1, hFg⟩, hF, Fc, hrow, hbx, hF1⟩ := AiD.end (N := 9) hD h4 rfl (fun i hi => by simpa using hL i (by simpa using hi))
   rw [show upd (upd (upd (upd (upd (fun _ => undef) 3 x3) 4 x4) 5 x5) 6 x6) 8 x8 6 = x6 by simp [upd]] at hrow hbx
   have HB5 := Lib.hid (HB4.out.app_wh hk1 hP1 hrow (by simpa using hbx) (fun b e => ⟨(hF1 b e).1, (hF1 b e).2.1, (hF1 b e).2.2.1, fun e' => (hF1 b e).2.2.2 (e' ▸ hFg)⟩) npc.1 hne hgrb)
   clear hL hD hk1 hP1 hFg hF hrow hbx hF1
   obtain ⟨q2, k2, rfl, -⟩ := HB5.out.st.wh.form
   have HRS := Lib.hid (show rOrg s.data.toList p = (⟨3, ps, [] ++ [b.1 - 1] ++ [c.1 - 1], []⟩, c.2) by rw [HROE.out, rRest, if_neg (by rw [hT2]; simp), if_pos hT3, rTwo]; simp only [HP5.out, HNb.out, HP6.out, HNc.out]; rfl)
   obtain ⟨c0, c1, c2, c3, cf⟩ := stp_cells HB5.out.st.box
   have zc := bsz (blk_lt HB5.out.st.box)
   obtain ⟨r0, r1, r2, r3, rf⟩ := stp_cells HB5.out.res
   have zr := bsz (blk_lt HB5.out.res)
   go_wp2
   refine bodyPost_ret (v := .agg #[.int .i64 3, (.slice q0 ps.length k0), (.slice q2 ([] ++ [b.1 - 1] ++ [c.1 - 1]).length k2), .slice none 0 0]) (by simp only [results, Tryz.results26]; go_simp) rfl ?_
   rw [HRS.out]
   exact RefSt.hand HB5.out hgrb _ _ _ _
  rw [hT3, if_neg (by simp)] at hPt
  have HBG := Lib.hid (HBF.out.step hPt hgt HBF.out.pos hne hgrb)
  clear hPt hgt
  go_wp2_with fail
  refine (refTake_any g s (⟨(sRem).toArray⟩ : ByteArray) PE _ HBG.out.rd HBG.out.pos (by omega) (by decide)).mono ?_
  rw [show (⟨(sRem).toArray⟩ : ByteArray).data.toList = sRem from rfl]
  rintro e wt ⟨v, rfl, rfl, hPt, hgt⟩
  cases hT4 : pTake s.data.toList sRem PE
  case true =>
   rw [hT4, if_pos rfl] at hPt
   have hpt := pTake_le hT4 (by rw [← size_list]; exact HBG.out.pos)
   rw [← size_list] at hpt
   obtain ⟨p5, hp5⟩ : ∃ p5, pAdv sRem PE = p5 := ⟨_, rfl⟩
   have hpt : p5.pos ≤ s.size := by rw [← hp5]; exact hpt
   have HP5 := Lib.hid hp5
   rw [hp5] at hPt
   have HB1 := Lib.hid (HBG.out.step hPt hgt hpt hne hgrb)
   clear hPt hgt hp5
   obtain ⟨c0, c1, c2, c3, cf⟩ := stp_cells HB1.out.st.box
   have zc := bsz (blk_lt HB1.out.st.box)
   have HB2 := Lib.hid (HB1.out.setRule 5 hne hgrb)
   go_wp2_with fail
   clear c0 c1 c2 c3 cf
   obtain ⟨b, hb⟩ : ∃ b, rNum s.data.toList p5 = b := ⟨_, rfl⟩
   have HNb := Lib.hid hb
   have nbb := rNum_bd s.data.toList p5
   have wrb : IntKind.i64.wrap (b.1 - 1) = b.1 - 1 := IntWalk.i64_in _ (by rw [hb] at nbb; omega)
   have npb := rNum_pos s.data.toList p5 (by rw [← size_list]; exact HB2.out.pos)
   rw [hb] at nbb npb
   rw [← size_list] at npb
   have zgb := bsz HB2.out.rd.lt
   have zsb := bsz (blk_lt HB2.out.st.box)
   clear hb
   refine wp_region_app 3 (RdH g s p5) (RdH g s b.2) 2 #[.int .i64 5, (.slice q0 ps.length k0), (.slice none 0 0), .slice none 0 0] 27 (.slice none 0 0) [] 3 5 6 8 b.1 (b.1 - 1) [(4, 3, decV)] [some (.pointer (some ⟨sb, 2, none⟩)), some (.slice none 0 0), some (.pointer (some ⟨g, 0, none⟩)), none, none, none, none, some (.pointer (some ⟨sb, 2, none⟩)), none] (by kernel_rfl) (by kernel_rfl) (by simp) HB2.out.st.wh HB2.out.fwh HB2.out.st.box ⟨HB2.out.rd, rfl⟩ HB2.out.rd.lt hne ?_
   go_simp
   refine flowV_st rfl rfl (by
    intro u' L w' hun hbe hD
    go_simp
    first | exact ⟨hD.other rfl hbe hun (by rfl) (by rfl), rfl⟩ | exact hD.other rfl hbe hun (by rfl) (by rfl)) ?_
   go_simp
   refine flowV_st rfl rfl (by
    intro u' L w' hun hbe hD
    have hbx := AiD.bx hD (by simp) hun (by kernel_rfl)
    obtain ⟨c0, c1, c2, cf⟩ := StB.cells hbx
    have zk := bsz (blk_lt hbx)
    clear hbx
    go_simp
    first | exact ⟨hD.other rfl hbe hun (by rfl) (by rfl), rfl⟩ | exact hD.other rfl hbe hun (by rfl) (by rfl)) ?_
   go_simp
   refine flowV_st rfl rfl (by
    intro u' L w' hun hbe hD
    go_simp
    first | exact ⟨hD.other rfl hbe hun (by rfl) (by rfl), rfl⟩ | exact hD.other rfl hbe hun (by rfl) (by rfl)) ?_
   go_simp
   refine flowV_ch rfl rfl (by
    intro u' hu' L w' hun hbe hD
    obtain ⟨F, ⟨hP, hFg⟩, hF, hcall⟩ := AiD.call hD (RdH.stab _ _ _) (RdH.stab _ _ _) h4 (by kernel_rfl) rfl hbe hun
    go_simp
    refine (refNum_any g s p5 w' hP HB2.out.pos (by omega)).mono ?_
    rw [HNb.out]
    rintro e w'' ⟨v, rfl, rfl, hP2, hg2⟩
    exact ⟨_, rfl, hcall w'' F ((Kp.of_gr hg2).mono (fun b e => by injection e with e; subst e; exact .inl hFg)) (fun b e => .inl e) (fun b e => Nat.lt_of_lt_of_le (hF b e).2 hg2.size) ⟨hP2, hFg⟩⟩) ?_
   intro x3
   go_simp
   refine flowV_ch rfl rfl (by
    intro u' hu' L w' hun hbe hD
    have d := after_behind hbe (p := 3) (by kernel_rfl)
    have e3 : u' 3 = x3 := (after_eq hu' (p := 3) (by kernel_rfl)).trans (by simp [upd])
    have hv := AiD.val hD h4 d
    have hst := AiD.dec hD (RdH.stab _ _ _) (RdH.stab _ _ _) h4.f (by kernel_rfl) rfl hbe hun (by rfl) d
    rw [hv] at hst
    obtain rfl : x3 = .int .i64 b.1 := e3.symm.trans hv
    first | (go_simp; done) | (go_simp; exact hst)) ?_
   intro x4
   go_simp
   refine flowV_ch rfl rfl (by
    intro u' hu' L w' hun hbe hD
    have d := after_behind hbe (p := 4) (by kernel_rfl)
    have d3 := AiD.dech hD d
    have e4 : u' 4 = x4 := (after_eq hu' (p := 4) (by kernel_rfl)).trans (by simp [upd])
    have hv := (AiD.decv hD d).trans (congrArg decV (AiD.val hD h4 d3))
    have hst := AiD.build hD (RdH.stab _ _ _) (RdH.stab _ _ _) h4 (by kernel_rfl) rfl hbe hun
    obtain rfl : x4 = .int .i64 (b.1 - 1) := e4.symm.trans hv
    first | (go_simp; done) | (go_simp; exact hst)) ?_
   intro x5
   go_simp
   refine flowV_ch rfl rfl (by
    intro u' hu' L w' hun hbe hD
    have e5 : u' 5 = x5 := (after_eq hu' (p := 5) (by kernel_rfl)).trans (by simp [upd])
    exact AiD.app hD (RdH.stab _ _ _) (RdH.stab _ _ _) ⟨by omega, by omega⟩ h4 (by kernel_rfl) rfl hbe hun _ _ _ rfl 8 elemIntE rfl e5.symm (by first | omega | (simp; done) | (simp; omega)) (by unfold maxLen; first | omega | (simp; done) | (simp; omega))) ?_
   intro x6
   go_simp
   refine flowV_st rfl rfl (by
    intro u' L w' hun hbe hD
    go_simp
    first | exact ⟨hD.other rfl hbe hun (by rfl) (by rfl), rfl⟩ | exact hD.other rfl hbe hun (by rfl) (by rfl)) ?_
   go_simp
   refine flowV_ch rfl rfl (by
    intro u' hu' L w' hun hbe hD
    have e6 : u' 6 = x6 := (after_eq hu' (p := 6) (by kernel_rfl)).trans (by simp [upd])
    obtain ⟨hbx, ⟨p8, c8, h8⟩, hst⟩ := AiD.put hD (RdH.stab _ _ _) (RdH.stab _ _ _) h4 (by kernel_rfl) rfl hbe hun
    have hst := hst undef
    rw [h8] at hst
    obtain rfl : x6 = _ := e6.symm.trans h8
    try simp only [List.length_cons, List.length_nil] at hst ⊢
    obtain ⟨c0, c1, c2, cf⟩ := StB.cells hbx
    have zk := bsz (blk_lt hbx)
    clear hbx
    first | (go_simp; done) | (go_simp; exact hst)) ?_
   intro x8
   refine flowV_nil ?_
   intro L wnb hL hD
   obtain ⟨hk1, FR, ⟨hP1, hFg⟩, hF, Fb, hrow, hbx, hF1⟩ := AiD.end (N := 9) hD h4 rfl (fun i hi => by simpa using hL i (by simpa using hi))
   rw [show upd (upd (upd (upd (upd (fun _ => undef) 3 x3) 4 x4) 5 x5) 6 x6) 8 x8 6 = x6 by simp [upd]] at hrow hbx
   have HB3 := Lib.hid (HB2.out.app_wh hk1 hP1 hrow (by simpa using hbx) (fun b e => ⟨(hF1 b e).1, (hF1 b e).2.1, (hF1 b e).2.2.1, fun e' => (hF1 b e).2.2.2 (e' ▸ hFg)⟩) npb.1 hne hgrb)
   clear hL hD hk1 hP1 hFg hF hrow hbx hF1
   obtain ⟨q1, k1, rfl, -⟩ := HB3.out.st.wh.form
   have HRS := Lib.hid (show rOrg s.data.toList p = (⟨5, ps, [] ++ [b.1 - 1], []⟩, b.2) by rw [HROE.out, rRest, if_neg (by rw [hT2]; simp), if_neg (by rw [hT3]; simp), if_pos hT4]; simp only [HP5.out, HNb.out]; rfl)
   obtain ⟨c0, c1, c2, c3, cf⟩ := stp_cells HB3.out.st.box
   have zc := bsz (blk_lt HB3.out.st.box)
   obtain ⟨r0, r1, r2, r3, rf⟩ := stp_cells HB3.out.res
   have zr := bsz (blk_lt HB3.out.res)
   go_wp2
   refine bodyPost_ret (v := .agg #[.int .i64 5, (.slice q0 ps.length k0), (.slice q1 ([] ++ [b.1 - 1]).length k1), .slice none 0 0]) (by simp only [results, Tryz.results26]; go_simp) rfl ?_
   rw [HRS.out]
   exact RefSt.hand HB3.out hgrb _ _ _ _
  rw [hT4, if_neg (by simp)] at hPt
  have HBH := Lib.hid (HBG.out.step hPt hgt HBG.out.pos hne hgrb)
  clear hPt hgt
  go_wp2_with fail
  refine (refTake_any g s (⟨(sRepl).toArray⟩ : ByteArray) PE _ HBH.out.rd HBH.out.pos (by omega) (by decide)).mono ?_
  rw [show (⟨(sRepl).toArray⟩ : ByteArray).data.toList = sRepl from rfl]
  rintro e wt ⟨v, rfl, rfl, hPt, hgt⟩
  cases hT5 : pTake s.data.toList sRepl PE
  case true =>
   rw [hT5, if_pos rfl] at hPt
   have hpt := pTake_le hT5 (by rw [← size_list]; exact HBH.out.pos)
   rw [← size_list] at hpt
   obtain ⟨p5, hp5⟩ : ∃ p5, pAdv sRepl PE = p5 := ⟨_, rfl⟩
   have hpt : p5.pos ≤ s.size := by rw [← hp5]; exact hpt
   have HP5 := Lib.hid hp5
   rw [hp5] at hPt
   have HB1 := Lib.hid (HBH.out.step hPt hgt hpt hne hgrb)
   clear hPt hgt hp5
   obtain ⟨c0, c1, c2, c3, cf⟩ := stp_cells HB1.out.st.box
   have zc := bsz (blk_lt HB1.out.st.box)
   have HB2 := Lib.hid (HB1.out.setRule 4 hne hgrb)
   go_wp2_with fail
   clear c0 c1 c2 c3 cf
   obtain ⟨b, hb⟩ : ∃ b, rNum s.data.toList p5 = b := ⟨_, rfl⟩
   have HNb := Lib.hid hb
   go_wp2_with fail
   refine (refNum_any g s p5 _ HB2.out.rd HB2.out.pos (by omega)).mono ?_
   rw [hb]
   rintro e wnb ⟨v, rfl, rfl, hPn, hgn⟩
   have HB3 := Lib.hid (HB2.out.step hPn hgn (by have := rNum_pos s.data.toList p5 (by rw [← size_list]; exact HB2.out.pos); rw [hb, ← size_list] at this; exact this.1) hne hgrb)
   have nbb := rNum_bd s.data.toList p5
   rw [hb] at nbb
   have wrb : IntKind.i64.wrap (b.1 - 1) = b.1 - 1 := IntWalk.i64_in _ (by omega)
   have HGb := Lib.hid hgn
   clear hPn hgn hb
   obtain ⟨p6, hp6⟩ : ∃ p6, pMust s.data.toList sAt b.2 = p6 := ⟨_, rfl⟩
   have HP6 := Lib.hid hp6
   go_wp2_with fail
   refine (refWant_any g s (⟨(sAt).toArray⟩ : ByteArray) b.2 _ HB3.out.rd HB3.out.pos (by omega) (by decide)).mono ?_
   rw [show (⟨(sAt).toArray⟩ : ByteArray).data.toList = sAt from rfl, hp6]
   rintro e wmp6 ⟨v, rfl, rfl, hPn, hgn⟩
   have HB4 := Lib.hid (HB3.out.step hPn hgn (by have := pMust_pos s.data.toList sAt b.2 (by rw [← size_list]; exact HB3.out.pos); rw [hp6, ← size_list] at this; exact this.2) hne hgrb)
   have HGp6 := Lib.hid hgn
   clear hPn hgn hp6
   obtain ⟨q, hq⟩ : ∃ q, rPos s.data.toList p6 = q := ⟨_, rfl⟩
   have HQ := Lib.hid hq
   have hql := rPos_len s.data.toList p6
   have hqp := rPos_pos s.data.toList p6 (by rw [← size_list]; exact HB4.out.pos)
   rw [hq] at hql hqp
   rw [← size_list] at hqp
   have zg5 := HB4.out.rd.lt
   go_wp2_with fail
   refine (refPlace_any g s p6 _ HB4.out.rd HB4.out.pos hs).mono ?_
   rw [hq]
   rintro e wq ⟨vq, rfl, hvq, hPn, hgn⟩
   obtain ⟨pq, cq, rfl, -⟩ := hvq.form
   have HVQ := Lib.hid hvq
   have HB5 := Lib.hid (HB4.out.step hPn hgn hqp.1 hne hgrb)
   clear hvq hPn hgn hq
   obtain ⟨p7, hp7⟩ : ∃ p7, pMust s.data.toList sWithL q.2 = p7 := ⟨_, rfl⟩
   have HP7 := Lib.hid hp7
   go_wp2_with fail
   refine (refWant_any g s (⟨(sWithL).toArray⟩ : ByteArray) q.2 _ HB5.out.rd HB5.out.pos (by omega) (by decide)).mono ?_
   rw [show (⟨(sWithL).toArray⟩ : ByteArray).data.toList = sWithL from rfl, hp7]
   rintro e wmp7 ⟨v, rfl, rfl, hPn, hgn⟩
   have HB6 := Lib.hid (HB5.out.step hPn hgn (by have := pMust_pos s.data.toList sWithL q.2 (by rw [← size_list]; exact HB5.out.pos); rw [hp7, ← size_list] at this; exact this.2) hne hgrb)
   have HGp7 := Lib.hid hgn
   clear hPn hgn hp7
   obtain ⟨c, hc⟩ : ∃ c, rNum s.data.toList p7 = c := ⟨_, rfl⟩
   have HNc := Lib.hid hc
   go_wp2_with fail
   refine (refNum_any g s p7 _ HB6.out.rd HB6.out.pos (by omega)).mono ?_
   rw [hc]
   rintro e wnc ⟨v, rfl, rfl, hPn, hgn⟩
   have HB7 := Lib.hid (HB6.out.step hPn hgn (by have := rNum_pos s.data.toList p7 (by rw [← size_list]; exact HB6.out.pos); rw [hc, ← size_list] at this; exact this.1) hne hgrb)
   have nbc := rNum_bd s.data.toList p7
   rw [hc] at nbc
   have wrc : IntKind.i64.wrap (c.1 - 1) = c.1 - 1 := IntWalk.i64_in _ (by omega)
   have HGc := Lib.hid hgn
   clear hPn hgn hc
   have hgq := gr_trans HGp7.out HGc.out
   have HQ7 := Lib.hid (show IntsAt (NewB wmp6 wq) wnc (.slice pq q.1.length cq) q.1 from HVQ.out.at_.mono (fun b hb hl => hgq.block b hl (by have := hb.1; simp; omega)) (fun _ h => h))
   go_wp2_with fail
   refine (refTake_any g s (⟨(sRdR).toArray⟩ : ByteArray) c.2 _ HB7.out.rd HB7.out.pos (by omega) (by decide)).mono ?_
   rw [show (⟨(sRdR).toArray⟩ : ByteArray).data.toList = sRdR from rfl]
   rintro e wt ⟨v, rfl, rfl, hPt, hgt⟩
   cases hT6 : pTake s.data.toList sRdR c.2
   case true =>
    have HQ8 := Lib.hid (show IntsAt (NewB wmp6 wq) wt (.slice pq q.1.length cq) q.1 from HQ7.out.mono (fun b hb hl => hgt.block b hl (by have := hb.1; simp; omega)) (fun _ h => h))
    rw [hT6, if_pos rfl] at hPt
    have hpt := pTake_le hT6 (by rw [← size_list]; exact HB7.out.pos)
    rw [← size_list] at hpt
    obtain ⟨p8, hp8⟩ : ∃ p8, pAdv sRdR c.2 = p8 := ⟨_, rfl⟩
    have hpt : p8.pos ≤ s.size := by rw [← hp8]; exact hpt
    have HP8 := Lib.hid hp8
    rw [hp8] at hPt
    have HB8 := Lib.hid (HB7.out.step hPt hgt hpt hne hgrb)
    clear hPt hgt hp8
    have HRS := Lib.hid (show rOrg s.data.toList p = (⟨4, ps, (c.1 - 1) :: 1 :: (b.1 - 1) :: q.1, []⟩, p8) by rw [HROE.out, rRest, if_neg (by rw [hT2]; simp), if_neg (by rw [hT3]; simp), if_neg (by rw [hT4]; simp), if_pos hT5, rSup]; simp only [HP5.out, HNb.out, HP6.out, HQ.out, HP7.out, HNc.out, hT6, if_true, HP8.out])
    have hrow := row_new wt 3 1 3 #[.int .i64 (c.1 - 1), .int .i64 1, .int .i64 (b.1 - 1)] rfl (by simp [maxLen])
    have HQa := Lib.hid (show IntsAt (NewB wmp6 wq) (wt.alloc (.cells #[.int .i64 (c.1 - 1), .int .i64 1, .int .i64 (b.1 - 1)] 3)) (.slice pq q.1.length cq) q.1 from HQ8.out.below ((Below.refl _ _).alloc (Nat.le_refl _) _))
    have HRW := Lib.hid hrow
    clear hrow
    have zsb := blk_lt HB8.out.st.box
    have zrb := blk_lt HB8.out.res
    go_wp2_with (at_builtin; refine wpList_appI rfl (.tmp 187) (.tmp 188) _ rfl 0 3 8 elemIntE _ 3 [.int .i64 (c.1 - 1), .int .i64 1, .int .i64 (b.1 - 1)] rfl _ q.1 rfl HQa.out HRW.out (by omega) (by unfold maxLen; omega) (Nat.zero_le _) ?_; intro v1 w3 hown1 hg1 hnr1; have hb3 := below_app hg1; obtain ⟨pv, cv, rfl⟩ := own_form hown1 (by omega); obtain ⟨d0, d1, d2, d3, df⟩ := stp_cells ((hb3.block _ zsb).trans HB8.out.st.box); obtain ⟨r0, r1, r2, r3, rf⟩ := stp_cells ((hb3.block _ zrb).trans HB8.out.res); have zk3 := bsz (Nat.lt_of_lt_of_le zsb hb3.size); have zr3 := bsz (Nat.lt_of_lt_of_le zrb hb3.size))
    refine bodyPost_ret (v := .agg #[.int .i64 4, .slice q0 ps.length k0, .slice (some ⟨pv, 0, none⟩) (3 + q.1.length) cv, .slice none 0 0]) (by simp only [results, Tryz.results26]; go_simp) rfl ?_
    rw [HRS.out]
    have hro := supRow (w := wt) (c.1 - 1) 1 (b.1 - 1) q.1 hown1 hnr1 (by simp) ⟨by omega, by omega⟩ ⟨by omega, by omega⟩ ⟨by omega, by omega⟩ hql
    have hel : 3 + q.1.length = ((c.1 - 1) :: 1 :: (b.1 - 1) :: q.1).length := by simp; omega
    rw [hel] at hro ⊢
    exact RefSt.hand (HB8.out.putW hb3 hro hne hgrb) hgrb _ _ _ _
   have HQ8 := Lib.hid (show IntsAt (NewB wmp6 wq) wt (.slice pq q.1.length cq) q.1 from HQ7.out.mono (fun b hb hl => hgt.block b hl (by have := hb.1; simp; omega)) (fun _ h => h))
   rw [hT6, if_neg (by simp)] at hPt
   have HB8 := Lib.hid (HB7.out.step hPt hgt HB7.out.pos hne hgrb)
   clear hPt hgt
   obtain ⟨p8, hp8⟩ : ∃ p8, pMust s.data.toList sRdL c.2 = p8 := ⟨_, rfl⟩
   have HP8 := Lib.hid hp8
   go_wp2_with fail
   refine (refWant_any g s (⟨(sRdL).toArray⟩ : ByteArray) c.2 _ HB8.out.rd HB8.out.pos (by omega) (by decide)).mono ?_
   rw [show (⟨(sRdL).toArray⟩ : ByteArray).data.toList = sRdL from rfl, hp8]
   rintro e wmp8 ⟨v, rfl, rfl, hPn, hgn⟩
   have HB9 := Lib.hid (HB8.out.step hPn hgn (by have := pMust_pos s.data.toList sRdL c.2 (by rw [← size_list]; exact HB8.out.pos); rw [hp8, ← size_list] at this; exact this.2) hne hgrb)
   have HGp8 := Lib.hid hgn
   clear hPn hgn hp8
   have HQ9 := Lib.hid (show IntsAt (NewB wmp6 wq) wmp8 (.slice pq q.1.length cq) q.1 from HQ8.out.mono (fun b hb hl => HGp8.out.block b hl (by have := hb.1; simp; omega)) (fun _ h => h))
   have HRS := Lib.hid (show rOrg s.data.toList p = (⟨4, ps, (c.1 - 1) :: 0 :: (b.1 - 1) :: q.1, []⟩, p8) by rw [HROE.out, rRest, if_neg (by rw [hT2]; simp), if_neg (by rw [hT3]; simp), if_neg (by rw [hT4]; simp), if_pos hT5, rSup]; simp only [HP5.out, HNb.out, HP6.out, HQ.out, HP7.out, HNc.out, hT6, Bool.false_eq_true, if_false, HP8.out])
   have hrow := row_new wmp8 3 1 3 #[.int .i64 (c.1 - 1), .int .i64 0, .int .i64 (b.1 - 1)] rfl (by simp [maxLen])
   have HQa := Lib.hid (show IntsAt (NewB wmp6 wq) (wmp8.alloc (.cells #[.int .i64 (c.1 - 1), .int .i64 0, .int .i64 (b.1 - 1)] 3)) (.slice pq q.1.length cq) q.1 from HQ9.out.below ((Below.refl _ _).alloc (Nat.le_refl _) _))
   have HRW := Lib.hid hrow
   clear hrow
   have zsb := blk_lt HB9.out.st.box
   have zrb := blk_lt HB9.out.res
   go_wp2_with (at_builtin; refine wpList_appI rfl (.tmp 187) (.tmp 188) _ rfl 0 3 8 elemIntE _ 3 [.int .i64 (c.1 - 1), .int .i64 0, .int .i64 (b.1 - 1)] rfl _ q.1 rfl HQa.out HRW.out (by omega) (by unfold maxLen; omega) (Nat.zero_le _) ?_; intro v1 w3 hown1 hg1 hnr1; have hb3 := below_app hg1; obtain ⟨pv, cv, rfl⟩ := own_form hown1 (by omega); obtain ⟨d0, d1, d2, d3, df⟩ := stp_cells ((hb3.block _ zsb).trans HB9.out.st.box); obtain ⟨r0, r1, r2, r3, rf⟩ := stp_cells ((hb3.block _ zrb).trans HB9.out.res); have zk3 := bsz (Nat.lt_of_lt_of_le zsb hb3.size); have zr3 := bsz (Nat.lt_of_lt_of_le zrb hb3.size))
   refine bodyPost_ret (v := .agg #[.int .i64 4, .slice q0 ps.length k0, .slice (some ⟨pv, 0, none⟩) (3 + q.1.length) cv, .slice none 0 0]) (by simp only [results, Tryz.results26]; go_simp) rfl ?_
   rw [HRS.out]
   have hro := supRow (w := wmp8) (c.1 - 1) 0 (b.1 - 1) q.1 hown1 hnr1 (by simp) ⟨by omega, by omega⟩ ⟨by omega, by omega⟩ ⟨by omega, by omega⟩ hql
   have hel : 3 + q.1.length = ((c.1 - 1) :: 0 :: (b.1 - 1) :: q.1).length := by simp; omega
   rw [hel] at hro ⊢
   exact RefSt.hand (HB9.out.putW hb3 hro hne hgrb) hgrb _ _ _ _
  rw [hT5, if_neg (by simp)] at hPt
  have HBI := Lib.hid (HBH.out.step hPt hgt HBH.out.pos hne hgrb)
  clear hPt hgt
  obtain ⟨p5, hp5⟩ : ∃ p5, pMust s.data.toList sRew PE = p5 := ⟨_, rfl⟩
  have HP5 := Lib.hid hp5
  go_wp2_with fail
  refine (refWant_any g s (⟨(sRew).toArray⟩ : ByteArray) PE _ HBI.out.rd HBI.out.pos (by omega) (by decide)).mono ?_
  rw [show (⟨(sRew).toArray⟩ : ByteArray).data.toList = sRew from rfl, hp5]
  rintro e wmp5 ⟨v, rfl, rfl, hPn, hgn⟩
  have HB1 := Lib.hid (HBI.out.step hPn hgn (by have := pMust_pos s.data.toList sRew PE (by rw [← size_list]; exact HBI.out.pos); rw [hp5, ← size_list] at this; exact this.2) hne hgrb)
  have HGp5 := Lib.hid hgn
  clear hPn hgn hp5
  obtain ⟨c0, c1, c2, c3, cf⟩ := stp_cells HB1.out.st.box
  have zc := bsz (blk_lt HB1.out.st.box)
  have HB2 := Lib.hid (HB1.out.setRule 6 hne hgrb)
  go_wp2_with fail
  clear c0 c1 c2 c3 cf
  obtain ⟨b, hb⟩ : ∃ b, rNum s.data.toList p5 = b := ⟨_, rfl⟩
  have HNb := Lib.hid hb
  have nbb := rNum_bd s.data.toList p5
  have wrb : IntKind.i64.wrap (b.1 - 1) = b.1 - 1 := IntWalk.i64_in _ (by rw [hb] at nbb; omega)
  have npb := rNum_pos s.data.toList p5 (by rw [← size_list]; exact HB2.out.pos)
  rw [hb] at nbb npb
  rw [← size_list] at npb
  have zgb := bsz HB2.out.rd.lt
  have zsb := bsz (blk_lt HB2.out.st.box)
  clear hb
  refine wp_region_app 3 (RdH g s p5) (RdH g s b.2) 1 #[.int .i64 6, (.slice q0 ps.length k0), (.slice none 0 0), .slice none 0 0] 27 (.slice q0 ps.length k0) ps 3 5 6 8 b.1 (b.1 - 1) [(4, 3, decV)] [some (.pointer (some ⟨sb, 1, none⟩)), some (.slice q0 ps.length k0), some (.pointer (some ⟨g, 0, none⟩)), none, none, none, none, some (.pointer (some ⟨sb, 1, none⟩)), none] (by kernel_rfl) (by kernel_rfl) (by simp) HB2.out.st.ps HB2.out.fps HB2.out.st.box ⟨HB2.out.rd, rfl⟩ HB2.out.rd.lt hne ?_
  go_simp
  refine flowV_st rfl rfl (by
   intro u' L w' hun hbe hD
   go_simp
   first | exact ⟨hD.other rfl hbe hun (by rfl) (by rfl), rfl⟩ | exact hD.other rfl hbe hun (by rfl) (by rfl)) ?_
  go_simp
  refine flowV_st rfl rfl (by
   intro u' L w' hun hbe hD
   have hbx := AiD.bx hD (by simp) hun (by kernel_rfl)
   obtain ⟨c0, c1, c2, cf⟩ := StB.cells hbx
   have zk := bsz (blk_lt hbx)
   clear hbx
   go_simp
   first | exact ⟨hD.other rfl hbe hun (by rfl) (by rfl), rfl⟩ | exact hD.other rfl hbe hun (by rfl) (by rfl)) ?_
  go_simp
  refine flowV_st rfl rfl (by
   intro u' L w' hun hbe hD
   go_simp
   first | exact ⟨hD.other rfl hbe hun (by rfl) (by rfl), rfl⟩ | exact hD.other rfl hbe hun (by rfl) (by rfl)) ?_
  go_simp
  refine flowV_ch rfl rfl (by
   intro u' hu' L w' hun hbe hD
   obtain ⟨F, ⟨hP, hFg⟩, hF, hcall⟩ := AiD.call hD (RdH.stab _ _ _) (RdH.stab _ _ _) h4 (by kernel_rfl) rfl hbe hun
   go_simp
   refine (refNum_any g s p5 w' hP HB2.out.pos (by omega)).mono ?_
   rw [HNb.out]
   rintro e w'' ⟨v, rfl, rfl, hP2, hg2⟩
   exact ⟨_, rfl, hcall w'' F ((Kp.of_gr hg2).mono (fun b e => by injection e with e; subst e; exact .inl hFg)) (fun b e => .inl e) (fun b e => Nat.lt_of_lt_of_le (hF b e).2 hg2.size) ⟨hP2, hFg⟩⟩) ?_
  intro x3
  go_simp
  refine flowV_ch rfl rfl (by
   intro u' hu' L w' hun hbe hD
   have d := after_behind hbe (p := 3) (by kernel_rfl)
   have e3 : u' 3 = x3 := (after_eq hu' (p := 3) (by kernel_rfl)).trans (by simp [upd])
   have hv := AiD.val hD h4 d
   have hst := AiD.dec hD (RdH.stab _ _ _) (RdH.stab _ _ _) h4.f (by kernel_rfl) rfl hbe hun (by rfl) d
   rw [hv] at hst
   obtain rfl : x3 = .int .i64 b.1 := e3.symm.trans hv
   first | (go_simp; done) | (go_simp; exact hst)) ?_
  intro x4
  go_simp
  refine flowV_ch rfl rfl (by
   intro u' hu' L w' hun hbe hD
   have d := after_behind hbe (p := 4) (by kernel_rfl)
   have d3 := AiD.dech hD d
   have e4 : u' 4 = x4 := (after_eq hu' (p := 4) (by kernel_rfl)).trans (by simp [upd])
   have hv := (AiD.decv hD d).trans (congrArg decV (AiD.val hD h4 d3))
   have hst := AiD.build hD (RdH.stab _ _ _) (RdH.stab _ _ _) h4 (by kernel_rfl) rfl hbe hun
   obtain rfl : x4 = .int .i64 (b.1 - 1) := e4.symm.trans hv
   first | (go_simp; done) | (go_simp; exact hst)) ?_
  intro x5
  go_simp
  refine flowV_ch rfl rfl (by
   intro u' hu' L w' hun hbe hD
   have e5 : u' 5 = x5 := (after_eq hu' (p := 5) (by kernel_rfl)).trans (by simp [upd])
   exact AiD.app hD (RdH.stab _ _ _) (RdH.stab _ _ _) ⟨by omega, by omega⟩ h4 (by kernel_rfl) rfl hbe hun _ _ _ rfl 8 elemIntE rfl e5.symm (by first | omega | (simp; done) | (simp; omega)) (by unfold maxLen; first | omega | (simp; done) | (simp; omega))) ?_
  intro x6
  go_simp
  refine flowV_st rfl rfl (by
   intro u' L w' hun hbe hD
   go_simp
   first | exact ⟨hD.other rfl hbe hun (by rfl) (by rfl), rfl⟩ | exact hD.other rfl hbe hun (by rfl) (by rfl)) ?_
  go_simp
  refine flowV_ch rfl rfl (by
   intro u' hu' L w' hun hbe hD
   have e6 : u' 6 = x6 := (after_eq hu' (p := 6) (by kernel_rfl)).trans (by simp [upd])
   obtain ⟨hbx, ⟨p8, c8, h8⟩, hst⟩ := AiD.put hD (RdH.stab _ _ _) (RdH.stab _ _ _) h4 (by kernel_rfl) rfl hbe hun
   have hst := hst undef
   rw [h8] at hst
   obtain rfl : x6 = _ := e6.symm.trans h8
   try simp only [List.length_cons, List.length_nil] at hst ⊢
   obtain ⟨c0, c1, c2, cf⟩ := StB.cells hbx
   have zk := bsz (blk_lt hbx)
   clear hbx
   first | (go_simp; done) | (go_simp; exact hst)) ?_
  intro x8
  refine flowV_nil ?_
  intro L wnb hL hD
  obtain ⟨hk1, FR, ⟨hP1, hFg⟩, hF, Fb, hrow, hbx, hF1⟩ := AiD.end (N := 9) hD h4 rfl (fun i hi => by simpa using hL i (by simpa using hi))
  rw [show upd (upd (upd (upd (upd (fun _ => undef) 3 x3) 4 x4) 5 x5) 6 x6) 8 x8 6 = x6 by simp [upd]] at hrow hbx
  have HB3 := Lib.hid (HB2.out.app_ps hk1 hP1 hrow (by simpa using hbx) (fun b e => ⟨(hF1 b e).1, (hF1 b e).2.1, (hF1 b e).2.2.1, fun e' => (hF1 b e).2.2.2 (e' ▸ hFg)⟩) npb.1 hne hgrb)
  clear hL hD hk1 hP1 hFg hF hrow hbx hF1
  obtain ⟨q1, k1, rfl, -⟩ := HB3.out.st.ps.form
  obtain ⟨ALL, hALL⟩ : ∃ x, ps ++ (b.1 - 1) :: (rMore s.data.toList (10 - ps.length) b.2).1 = x := ⟨_, rfl⟩
  obtain ⟨PEE, hPEE⟩ : ∃ x, (rMore s.data.toList (10 - ps.length) b.2).2 = x := ⟨_, rfl⟩
  have HRS0 := Lib.hid (show rOrg s.data.toList p = (⟨6, ALL, [], []⟩, PEE) by rw [HROE.out, rRest, if_neg (by rw [hT2]; simp), if_neg (by rw [hT3]; simp), if_neg (by rw [hT4]; simp), if_neg (by rw [hT5]; simp), ← hALL, ← hPEE]; simp only [HP5.out, HNb.out])
  have HAE := Lib.hid (And.intro hALL hPEE)
  clear hALL hPEE
  (try clear hg); (try clear hz1); (try clear hz2); (try clear hz3); (try clear wra); (try clear nba); (try clear npa); (try clear hpp2); (try clear hW); (try clear hsb); (try clear hrb); (try clear hTA); (try clear hPE); (try clear hFE); (try clear hps); (try clear hvp); (try clear hFN); (try clear hT2); (try clear hT3); (try clear hT4); (try clear hT5); (try clear zc); (try clear zgb); (try clear zsb); (try clear wrb); (try clear npb); (try clear nbb); (try clear HT); (try clear H1); (try clear HRG); (try clear HP2); (try clear HA); (try clear HB0); (try clear HRO); (try clear HROE); (try clear HP5); (try clear HNb); (try clear HGp5); (try clear hpt); (try clear zga); (try clear HNa); (try clear HFb)
  go_wp2_with fail
  go_loopw [] (RoRel g sb rb s w FN ALL PEE) (fun wr => s.size - posOf wr g)
  case atStart => exact ⟨10 - ps.length, b.2, ps ++ [b.1 - 1], _, _, HB3.out, by rw [← HAE.out.1]; simp, HAE.out.2, by simp; omega⟩
  case round =>
   obtain ⟨f, p', pl, v, F, hB, hal, hpe, hlf⟩ := hrel
   have HB := Lib.hid hB
   have HPO := hB.rd.posOf
   obtain ⟨k, bad⟩ := p'
   have hpb : k ≤ s.size := hB.pos
   obtain ⟨j, hj⟩ : ∃ j, k + 2 = j := ⟨_, rfl⟩
   have wr2 : IntKind.i64.wrap ((k : Int) + 2) = (j : Int) := by rw [IntWalk.i64_in _ (by omega)]; omega
   obtain ⟨qv, cv, rfl, -⟩ := hB.st.ps.form
   obtain ⟨d0, d1, d2, df⟩ := hB.rd.cells
   obtain ⟨-, x1, -, -, xf⟩ := stp_cells hB.st.box
   simp only at d1 d2
   have hgw := bsz hB.rd.lt
   have hsw := bsz (blk_lt hB.st.box)
   have HAL := Lib.hid (And.intro hal hpe)
   have HAS0 := Lib.hid (fun w' => l8Starts_any s (⟨#[44, 32]⟩ : ByteArray) k w' hpb (by omega) (by decide))
   clear hB hal hpe HB3 HBE HBF HBG HBH HBI HB1 HB2 HAE
   (try clear hpl); (try clear hp)
   cases bad
   case true =>
    have HAS := HAS0
    have HNX := Lib.hid (show rMore s.data.toList f ⟨k, true⟩ = ([], ⟨k, true⟩) by
     cases f with
     | zero => rw [rMore]
     | succ f => rw [rMore, if_neg (by rw [moreC, pTake]; simp)])
    go_wp2_with fail
    go_quiet (first | (go_at_call 54; exact Calls.quiet_of_same ((HAS.out _).mono fun e w' h => ⟨h.1, h.2.symm⟩)) | (go_at_call 28; exact Calls.quiet_of_same ((l1In_any _ 48 57 _).mono fun e w' h => ⟨h.1, h.2.symm⟩)))
    obtain ⟨wz, hwz⟩ : ∃ wz, wr.drewN nq = wz := ⟨_, rfl⟩
    have hbz : Below wr.heap.size wr wz := by rw [← hwz]; exact below_drewN (Below.refl _ _) nq
    rw [hwz]
    clear hwz
    have HBz := Lib.hid (HB.out.step (HB.out.rd.below hbz) (gr_below (gr_refl wr g) hbz) HB.out.pos hne hgrb)
    obtain ⟨e1, e2⟩ := HAL.out
    rw [HNX.out] at e1 e2
    rw [List.append_nil] at e1
    have HRS := Lib.hid (show rOrg s.data.toList p = (⟨6, pl, [], []⟩, _) by rw [HRS0.out, ← e1, ← e2])
    obtain ⟨c0, c1, c2, c3, cf⟩ := stp_cells HBz.out.st.box
    have zc := bsz (blk_lt HBz.out.st.box)
    obtain ⟨r0, r1, r2, r3, rf⟩ := stp_cells HBz.out.res
    have zr := bsz (blk_lt HBz.out.res)
    go_wp2
    refine bodyPost_ret (v := .agg #[.int .i64 6, (.slice qv pl.length cv), (.slice none 0 0), .slice none 0 0]) (by simp only [results, Tryz.results26]; go_simp) rfl ?_
    rw [HRS.out]
    exact RefSt.hand HBz.out hgrb _ _ _ _
   rw [show (⟨#[44, 32]⟩ : ByteArray).data.toList = sComma from rfl] at HAS0
   have HTL := Lib.hid (show pTake s.data.toList sComma ⟨k, false⟩ = sComma.isPrefixOf (s.data.toList.drop k) by rw [pTake]; rfl)
   by_cases hf : f = 0
   ·subst hf
    have hl10 : decide ((pl.length : Int) ≤ 10) = false := decide_eq_false (by omega)
    have HAS := HAS0
    have HNX := Lib.hid (show rMore s.data.toList 0 ⟨k, false⟩ = ([], ⟨k, false⟩) by rw [rMore])
    go_wp2_with fail
    go_quiet (first | (go_at_call 54; exact Calls.quiet_of_same ((HAS.out _).mono fun e w' h => ⟨h.1, h.2.symm⟩)) | (go_at_call 28; exact Calls.quiet_of_same ((l1In_any _ 48 57 _).mono fun e w' h => ⟨h.1, h.2.symm⟩)))
    obtain ⟨wz, hwz⟩ : ∃ wz, wr.drewN nq = wz := ⟨_, rfl⟩
    have hbz : Below wr.heap.size wr wz := by rw [← hwz]; exact below_drewN (Below.refl _ _) nq
    rw [hwz]
    clear hwz
    have HBz := Lib.hid (HB.out.step (HB.out.rd.below hbz) (gr_below (gr_refl wr g) hbz) HB.out.pos hne hgrb)
    obtain ⟨e1, e2⟩ := HAL.out
    rw [HNX.out] at e1 e2
    rw [List.append_nil] at e1
    have HRS := Lib.hid (show rOrg s.data.toList p = (⟨6, pl, [], []⟩, _) by rw [HRS0.out, ← e1, ← e2])
    obtain ⟨c0, c1, c2, c3, cf⟩ := stp_cells HBz.out.st.box
    have zc := bsz (blk_lt HBz.out.st.box)
    obtain ⟨r0, r1, r2, r3, rf⟩ := stp_cells HBz.out.res
    have zr := bsz (blk_lt HBz.out.res)
    go_wp2
    refine bodyPost_ret (v := .agg #[.int .i64 6, (.slice qv pl.length cv), (.slice none 0 0), .slice none 0 0]) (by simp only [results, Tryz.results26]; go_simp) rfl ?_
    rw [HRS.out]
    exact RefSt.hand HBz.out hgrb _ _ _ _
   have hl10 : (pl.length : Int) ≤ 10 := by omega
   obtain ⟨f', rfl⟩ : ∃ q, f = q + 1 := ⟨f - 1, by omega⟩
   cases hT : sComma.isPrefixOf (s.data.toList.drop k)
   ·have HAS := HAS0
    rw [hT] at HAS
    have HNX := Lib.hid (show rMore s.data.toList (f' + 1) ⟨k, false⟩ = ([], ⟨k, false⟩) by rw [rMore, if_neg (by rw [moreC, HTL.out, hT]; simp)])
    clear hT HAS0
    go_wp2_with fail
    go_quiet (first | (go_at_call 54; exact Calls.quiet_of_same ((HAS.out _).mono fun e w' h => ⟨h.1, h.2.symm⟩)) | (go_at_call 28; exact Calls.quiet_of_same ((l1In_any _ 48 57 _).mono fun e w' h => ⟨h.1, h.2.symm⟩)))
    obtain ⟨wz, hwz⟩ : ∃ wz, wr.drewN nq = wz := ⟨_, rfl⟩
    have hbz : Below wr.heap.size wr wz := by rw [← hwz]; exact below_drewN (Below.refl _ _) nq
    rw [hwz]
    clear hwz
    have HBz := Lib.hid (HB.out.step (HB.out.rd.below hbz) (gr_below (gr_refl wr g) hbz) HB.out.pos hne hgrb)
    obtain ⟨e1, e2⟩ := HAL.out
    rw [HNX.out] at e1 e2
    rw [List.append_nil] at e1
    have HRS := Lib.hid (show rOrg s.data.toList p = (⟨6, pl, [], []⟩, _) by rw [HRS0.out, ← e1, ← e2])
    obtain ⟨c0, c1, c2, c3, cf⟩ := stp_cells HBz.out.st.box
    have zc := bsz (blk_lt HBz.out.st.box)
    obtain ⟨r0, r1, r2, r3, rf⟩ := stp_cells HBz.out.res
    have zr := bsz (blk_lt HBz.out.res)
    go_wp2
    refine bodyPost_ret (v := .agg #[.int .i64 6, (.slice qv pl.length cv), (.slice none 0 0), .slice none 0 0]) (by simp only [results, Tryz.results26]; go_simp) rfl ?_
    rw [HRS.out]
    exact RefSt.hand HBz.out hgrb _ _ _ _
   have HAS := HAS0
   rw [hT] at HAS
   have HT3 := Lib.hid (HTL.out.trans hT)
   clear hT HAS0
   by_cases h2 : j < s.size
   case neg =>
    have h2i : decide ((j : Int) < s.size) = false := decide_eq_false (by omega)
    have HNX := Lib.hid (show rMore s.data.toList (f' + 1) ⟨k, false⟩ = ([], ⟨k, false⟩) by rw [rMore, if_neg (by rw [moreC, ← size_list, show decide (k + 2 < s.size) = false by rw [hj]; simpa using h2]; simp)])
    clear hj
    go_wp2_with fail
    go_quiet (first | (go_at_call 54; exact Calls.quiet_of_same ((HAS.out _).mono fun e w' h => ⟨h.1, h.2.symm⟩)) | (go_at_call 28; exact Calls.quiet_of_same ((l1In_any _ 48 57 _).mono fun e w' h => ⟨h.1, h.2.symm⟩)))
    obtain ⟨wz, hwz⟩ : ∃ wz, wr.drewN nq = wz := ⟨_, rfl⟩
    have hbz : Below wr.heap.size wr wz := by rw [← hwz]; exact below_drewN (Below.refl _ _) nq
    rw [hwz]
    clear hwz
    have HBz := Lib.hid (HB.out.step (HB.out.rd.below hbz) (gr_below (gr_refl wr g) hbz) HB.out.pos hne hgrb)
    obtain ⟨e1, e2⟩ := HAL.out
    rw [HNX.out] at e1 e2
    rw [List.append_nil] at e1
    have HRS := Lib.hid (show rOrg s.data.toList p = (⟨6, pl, [], []⟩, _) by rw [HRS0.out, ← e1, ← e2])
    obtain ⟨c0, c1, c2, c3, cf⟩ := stp_cells HBz.out.st.box
    have zc := bsz (blk_lt HBz.out.st.box)
    obtain ⟨r0, r1, r2, r3, rf⟩ := stp_cells HBz.out.res
    have zr := bsz (blk_lt HBz.out.res)
    go_wp2
    refine bodyPost_ret (v := .agg #[.int .i64 6, (.slice qv pl.length cv), (.slice none 0 0), .slice none 0 0]) (by simp only [results, Tryz.results26]; go_simp) rfl ?_
    rw [HRS.out]
    exact RefSt.hand HBz.out hgrb _ _ _ _
   have h2i : (j : Int) < s.size := by omega
   have HGD := Lib.hid (show s.data.toList.getD (k + 2) 0 = s[j] by rw [hj]; exact getDq s j h2)
   have hinq : ∀ c : UInt8, inB (c.toNat : Int) 48 57 = diC c := fun c => by rw [Bool.eq_iff_iff]; simp only [inB, diC, Bool.and_eq_true, decide_eq_true_eq]; omega
   cases hdi : diC s[j]
   ·have hdi2 : inB (wrap64 (s[j].toNat : Int)) 48 57 = false := by rw [wrap64_byte, hinq]; exact hdi
    have HNX := Lib.hid (show rMore s.data.toList (f' + 1) ⟨k, false⟩ = ([], ⟨k, false⟩) by rw [rMore, if_neg (by rw [moreC, HGD.out, hdi]; simp)])
    clear hinq hj
    go_wp2_with fail
    go_quiet (first | (go_at_call 54; exact Calls.quiet_of_same ((HAS.out _).mono fun e w' h => ⟨h.1, h.2.symm⟩)) | (go_at_call 28; exact Calls.quiet_of_same ((l1In_any _ 48 57 _).mono fun e w' h => ⟨h.1, h.2.symm⟩)))
    obtain ⟨wz, hwz⟩ : ∃ wz, wr.drewN nq = wz := ⟨_, rfl⟩
    have hbz : Below wr.heap.size wr wz := by rw [← hwz]; exact below_drewN (Below.refl _ _) nq
    rw [hwz]
    clear hwz
    have HBz := Lib.hid (HB.out.step (HB.out.rd.below hbz) (gr_below (gr_refl wr g) hbz) HB.out.pos hne hgrb)
    obtain ⟨e1, e2⟩ := HAL.out
    rw [HNX.out] at e1 e2
    rw [List.append_nil] at e1
    have HRS := Lib.hid (show rOrg s.data.toList p = (⟨6, pl, [], []⟩, _) by rw [HRS0.out, ← e1, ← e2])
    obtain ⟨c0, c1, c2, c3, cf⟩ := stp_cells HBz.out.st.box
    have zc := bsz (blk_lt HBz.out.st.box)
    obtain ⟨r0, r1, r2, r3, rf⟩ := stp_cells HBz.out.res
    have zr := bsz (blk_lt HBz.out.res)
    go_wp2
    refine bodyPost_ret (v := .agg #[.int .i64 6, (.slice qv pl.length cv), (.slice none 0 0), .slice none 0 0]) (by simp only [results, Tryz.results26]; go_simp) rfl ?_
    rw [HRS.out]
    exact RefSt.hand HBz.out hgrb _ _ _ _
   ·have hdi2 : inB (wrap64 (s[j].toNat : Int)) 48 57 = true := by rw [wrap64_byte, hinq]; exact hdi
    have HJ := Lib.hid hj
    have HNX := Lib.hid (show rMore s.data.toList (f' + 1) ⟨k, false⟩ = (((rNum s.data.toList ⟨j, false⟩).1 - 1) :: (rMore s.data.toList f' (rNum s.data.toList ⟨j, false⟩).2).1, (rMore s.data.toList f' (rNum s.data.toList ⟨j, false⟩).2).2) by rw [rMore, if_pos (by rw [moreC, HGD.out, hdi, HT3.out, ← size_list, hj]; simpa using h2), ← hj]; rfl)
    clear hinq hj
    go_wp2_with fail
    go_quiet (first | (go_at_call 54; exact Calls.quiet_of_same ((HAS.out _).mono fun e w' h => ⟨h.1, h.2.symm⟩)) | (go_at_call 28; exact Calls.quiet_of_same ((l1In_any _ 48 57 _).mono fun e w' h => ⟨h.1, h.2.symm⟩)))
    obtain ⟨wz, hwz⟩ : ∃ wz, wr.drewN nq = wz := ⟨_, rfl⟩
    have hbz : Below wr.heap.size wr wz := by rw [← hwz]; exact below_drewN (Below.refl _ _) nq
    rw [hwz]
    clear hwz
    have HBz := Lib.hid (HB.out.step (HB.out.rd.below hbz) (gr_below (gr_refl wr g) hbz) HB.out.pos hne hgrb)
    clear HAS d0 d1 d2 df x1 xf
    obtain ⟨d0, d1, d2, df⟩ := HBz.out.rd.cells
    simp only at d1 d2
    have hgz := bsz HBz.out.rd.lt
    have HBm := Lib.hid (HBz.out.step (p' := ⟨j, false⟩) (HBz.out.rd.pos j) (gr_sc (gr_refl wz g) (.inl rfl) _) (by show j ≤ s.size; omega) hne hgrb)
    go_wp2_with fail
    clear d0 d1 d2 df
    obtain ⟨c, hc⟩ : ∃ c, rNum s.data.toList (⟨j, false⟩ : PSt) = c := ⟨_, rfl⟩
    have HNc := Lib.hid hc
    have nbc := rNum_bd s.data.toList (⟨j, false⟩ : PSt)
    have wrc : IntKind.i64.wrap (c.1 - 1) = c.1 - 1 := IntWalk.i64_in _ (by rw [hc] at nbc; omega)
    have npc := rNum_pos s.data.toList (⟨j, false⟩ : PSt) (by rw [← size_list]; exact HBm.out.pos)
    rw [hc] at nbc npc
    rw [← size_list] at npc
    have zgc := bsz HBm.out.rd.lt
    have zsc := bsz (blk_lt HBm.out.st.box)
    clear hc
    refine wp_region_app 3 (RdH g s (⟨j, false⟩ : PSt)) (RdH g s c.2) 1 #[.int .i64 6, (.slice qv pl.length cv), (.slice none 0 0), .slice none 0 0] 27 (.slice qv pl.length cv) pl 3 5 6 8 c.1 (c.1 - 1) [(4, 3, decV)] [some (.pointer (some ⟨sb, 1, none⟩)), some (.slice qv pl.length cv), some (.pointer (some ⟨g, 0, none⟩)), none, none, none, none, some (.pointer (some ⟨sb, 1, none⟩)), none] (by kernel_rfl) (by kernel_rfl) (by simp) HBm.out.st.ps HBm.out.fps HBm.out.st.box ⟨HBm.out.rd, rfl⟩ HBm.out.rd.lt hne ?_
    go_simp
    refine flowV_st rfl rfl (by
     intro u' L w' hun hbe hD
     go_simp
     first | exact ⟨hD.other rfl hbe hun (by rfl) (by rfl), rfl⟩ | exact hD.other rfl hbe hun (by rfl) (by rfl)) ?_
    go_simp
    refine flowV_st rfl rfl (by
     intro u' L w' hun hbe hD
     have hbx := AiD.bx hD (by simp) hun (by kernel_rfl)
     obtain ⟨c0, c1, c2, cf⟩ := StB.cells hbx
     have zk := bsz (blk_lt hbx)
     clear hbx
     go_simp
     first | exact ⟨hD.other rfl hbe hun (by rfl) (by rfl), rfl⟩ | exact hD.other rfl hbe hun (by rfl) (by rfl)) ?_
    go_simp
    refine flowV_st rfl rfl (by
     intro u' L w' hun hbe hD
     go_simp
     first | exact ⟨hD.other rfl hbe hun (by rfl) (by rfl), rfl⟩ | exact hD.other rfl hbe hun (by rfl) (by rfl)) ?_
    go_simp
    refine flowV_ch rfl rfl (by
     intro u' hu' L w' hun hbe hD
     obtain ⟨F, ⟨hP, hFg⟩, hF, hcall⟩ := AiD.call hD (RdH.stab _ _ _) (RdH.stab _ _ _) h4 (by kernel_rfl) rfl hbe hun
     go_simp
     refine (refNum_any g s (⟨j, false⟩ : PSt) w' hP HBm.out.pos (by omega)).mono ?_
     rw [HNc.out]
     rintro e w'' ⟨v, rfl, rfl, hP2, hg2⟩
     exact ⟨_, rfl, hcall w'' F ((Kp.of_gr hg2).mono (fun b e => by injection e with e; subst e; exact .inl hFg)) (fun b e => .inl e) (fun b e => Nat.lt_of_lt_of_le (hF b e).2 hg2.size) ⟨hP2, hFg⟩⟩) ?_
    intro x3
    go_simp
    refine flowV_ch rfl rfl (by
     intro u' hu' L w' hun hbe hD
     have d := after_behind hbe (p := 3) (by kernel_rfl)
     have e3 : u' 3 = x3 := (after_eq hu' (p := 3) (by kernel_rfl)).trans (by simp [upd])
     have hv := AiD.val hD h4 d
     have hst := AiD.dec hD (RdH.stab _ _ _) (RdH.stab _ _ _) h4.f (by kernel_rfl) rfl hbe hun (by rfl) d
     rw [hv] at hst
     obtain rfl : x3 = .int .i64 c.1 := e3.symm.trans hv
     first | (go_simp; done) | (go_simp; exact hst)) ?_
    intro x4
    go_simp
    refine flowV_ch rfl rfl (by
     intro u' hu' L w' hun hbe hD
     have d := after_behind hbe (p := 4) (by kernel_rfl)
     have d3 := AiD.dech hD d
     have e4 : u' 4 = x4 := (after_eq hu' (p := 4) (by kernel_rfl)).trans (by simp [upd])
     have hv := (AiD.decv hD d).trans (congrArg decV (AiD.val hD h4 d3))
     have hst := AiD.build hD (RdH.stab _ _ _) (RdH.stab _ _ _) h4 (by kernel_rfl) rfl hbe hun
     obtain rfl : x4 = .int .i64 (c.1 - 1) := e4.symm.trans hv
     first | (go_simp; done) | (go_simp; exact hst)) ?_
    intro x5
    go_simp
    refine flowV_ch rfl rfl (by
     intro u' hu' L w' hun hbe hD
     have e5 : u' 5 = x5 := (after_eq hu' (p := 5) (by kernel_rfl)).trans (by simp [upd])
     exact AiD.app hD (RdH.stab _ _ _) (RdH.stab _ _ _) ⟨by omega, by omega⟩ h4 (by kernel_rfl) rfl hbe hun _ _ _ rfl 8 elemIntE rfl e5.symm (by first | omega | (simp; done) | (simp; omega)) (by unfold maxLen; first | omega | (simp; done) | (simp; omega))) ?_
    intro x6
    go_simp
    refine flowV_st rfl rfl (by
     intro u' L w' hun hbe hD
     go_simp
     first | exact ⟨hD.other rfl hbe hun (by rfl) (by rfl), rfl⟩ | exact hD.other rfl hbe hun (by rfl) (by rfl)) ?_
    go_simp
    refine flowV_ch rfl rfl (by
     intro u' hu' L w' hun hbe hD
     have e6 : u' 6 = x6 := (after_eq hu' (p := 6) (by kernel_rfl)).trans (by simp [upd])
     obtain ⟨hbx, ⟨p8, c8, h8⟩, hst⟩ := AiD.put hD (RdH.stab _ _ _) (RdH.stab _ _ _) h4 (by kernel_rfl) rfl hbe hun
     have hst := hst undef
     rw [h8] at hst
     obtain rfl : x6 = _ := e6.symm.trans h8
     try simp only [List.length_cons, List.length_nil] at hst ⊢
     obtain ⟨c0, c1, c2, cf⟩ := StB.cells hbx
     have zk := bsz (blk_lt hbx)
     clear hbx
     first | (go_simp; done) | (go_simp; exact hst)) ?_
    intro x8
    refine flowV_nil ?_
    intro L wnc hL hD
    obtain ⟨hk1, FR, ⟨hP1, hFg⟩, hF, Fc, hrow, hbx, hF1⟩ := AiD.end (N := 9) hD h4 rfl (fun i hi => by simpa using hL i (by simpa using hi))
    rw [show upd (upd (upd (upd (upd (fun _ => undef) 3 x3) 4 x4) 5 x5) 6 x6) 8 x8 6 = x6 by simp [upd]] at hrow hbx
    have HBn := Lib.hid (HBm.out.app_ps hk1 hP1 hrow (by simpa using hbx) (fun b e => ⟨(hF1 b e).1, (hF1 b e).2.1, (hF1 b e).2.2.1, fun e' => (hF1 b e).2.2.2 (e' ▸ hFg)⟩) npc.1 hne hgrb)
    clear hL hD hk1 hP1 hFg hF hrow hbx hF1
    go_wp2
    obtain ⟨e1, e2⟩ := HAL.out
    rw [HNX.out, HNc.out] at e1 e2
    have hjk := HJ.out
    refine ⟨?_, by rw [HBn.out.rd.posOf]; (try rw [HPO]); show s.size - c.2.pos < s.size - k; have := npc.2; (try simp only at this); omega⟩
    first | exact ⟨f', c.2, pl ++ [c.1 - 1], _, _, HBn.out, by rw [← e1]; simp, e2, by simp; omega⟩ | (repeat apply Exists.intro; exact ⟨⟨f', c.2, pl ++ [c.1 - 1], _, _, HBn.out, by rw [← e1]; simp, e2, by simp; omega⟩, rfl⟩)
end Go.Proofs.YtabkdonplmlbcaaGreatDoor
