import Derived.Test.YtabkdonplmlbcaaGreatDoorStPart32
namespace Go.Proofs.YtabkdonplmlbcaaGreatDoor
set_option maxRecDepth 100000
open Go.RowKit
structure StpOwn (m : Nat) (S1 S2 S3 : Nat → Prop) (w : World) (s : Stp) (v1 v2 v3 : Value) : Prop where
 ru : i64B s.rule
 ps : IntOwn 3 S1 w s.ps v1
 wh : IntOwn 3 S2 w s.wh v2
 c : ClsOwn 64 81 m S3 w s.c v3
 d1 : ∀ b, S1 b → ¬ S2 b ∧ ¬ S3 b
 d2 : ∀ b, S2 b → ¬ S3 b
theorem StpOwn.at_ {m : Nat} {S1 S2 S3 : Nat → Prop} {w : World} {s : Stp} {v1 v2 v3 : Value} (h : StpOwn m S1 S2 S3 w s v1 v2 v3) : StpAt (fun b => S1 b ∨ S2 b ∨ S3 b) m w s [.int .i64 s.rule, v1, v2, v3] :=
 ⟨v1, v2, v3, rfl, h.ru, h.ps.at_.mono (SameOn.refl _ _) (fun _ h => .inl h), h.wh.at_.mono (SameOn.refl _ _) (fun _ h => .inr (.inl h)), ClsAt.mono (SameOn.refl _ _) (fun _ h => .inr (.inr h)) (Nat.le_refl _) (ClsOwn.at_ h.c)⟩
theorem StpOwn.later {m : Nat} {S1 S2 S3 : Nat → Prop} {w w' : World} {s : Stp} {v1 v2 v3 : Value} (hb : Below w.heap.size w w') (h : StpOwn m S1 S2 S3 w s v1 v2 v3) : StpOwn m S1 S2 S3 w' s v1 v2 v3 :=
 ⟨h.ru, h.ps.later hb, h.wh.later hb, h.c.later hb, h.d1, h.d2⟩
theorem stp_cells {w : World} {g : Nat} {T : TypeId} {a b c d : Value} (h : w.heap[g]? = some (.cells #[a, b, c, d] T (0, 0))) : w.cell? ⟨g, 0, none⟩ = some a ∧ w.cell? ⟨g, 1, none⟩ = some b ∧ w.cell? ⟨g, 2, none⟩ = some c ∧ w.cell? ⟨g, 3, none⟩ = some d ∧ (∀ j, w.frozen? ⟨g, j, none⟩ = false) := by
 refine ⟨?_, ?_, ?_, ?_, fun j => frozen_of_row w g j _ _ h⟩
 ·rw [cell_of_row w g 0 _ _ (0, 0) h]; rfl
 ·rw [cell_of_row w g 1 _ _ (0, 0) h]; rfl
 ·rw [cell_of_row w g 2 _ _ (0, 0) h]; rfl
 ·rw [cell_of_row w g 3 _ _ (0, 0) h]; rfl
def Stp.cts (s : Stp) : Nat := s.ps.length + s.wh.length + Cls.cts s.c
def StpMk (s : Stp) (k k' : Nat) : Prop := s.ps = marksI k s.ps.length ∧ s.wh = marksI (k + s.ps.length) s.wh.length ∧ Cls.Mkds s.c (k + s.ps.length + s.wh.length) k'
theorem ClsOwn.kept {eT eL : TypeId} {n : Nat} {S K : Nat → Prop} {w w' : World} {c : List Lit3} {v : Value} (h : ClsOwn eT eL n S w c v) (hk : Kept K w w') (hd : ∀ b, S b → ¬ K b) : ClsOwn eT eL n S w' c v :=
 ClsOwn.mono (Nat.le_refl _) (fun b hb hlt => hk.block b hlt (hd b hb)) (fun _ h => h) h
set_option maxHeartbeats 3200000 in
theorem markStep_any (m : Nat) (S1 S2 S3 : Nat → Prop) (s : Stp) (v1 v2 v3 : Value) (k : Nat) (w : World) (h : StpOwn (m + 1) S1 S2 S3 w s v1 v2 v3) (hS : ∀ b, S1 b ∨ S2 b ∨ S3 b → b < w.heap.size) (hk : 0 < k) (hb : k + s.cts ≤ 1000000) :
 Calls Tryz.prog 7 #[.agg #[.int .i64 s.rule, v1, v2, v3], .int .i64 (k : Nat)] w fun e w' => ∃ (s' : Stp) (k' : Nat), e = .returned (.int .i64 (k' : Nat)) ∧ s'.rule = s.rule ∧ s'.ps.length = s.ps.length ∧ s'.wh.length = s.wh.length ∧ s'.c.length = s.c.length ∧ StpMk s' k k' ∧ k' ≤ k + s.cts ∧ StpOwn (m + 1) S1 S2 S3 w' s' v1 v2 v3 ∧ Kept (fun b => S1 b ∨ S2 b ∨ S3 b) w w' := by
 obtain ⟨p1, c1, rfl, l1⟩ := OwnRow.form h.ps
 obtain ⟨p2, c2, rfl, l2⟩ := OwnRow.form h.wh
 obtain ⟨p3, c3, rfl, l3⟩ := OwnRow.form h.c
 have H := Lib.hid h
 have HSz := Lib.hid hS
 have hcts : s.cts = s.ps.length + s.wh.length + Cls.cts s.c := rfl
 unfold maxLen at l1 l2 l3
 clear h hS
 go_enter Tryz.func7, Tryz.ntmps7
 go_wp2_with fail
 refine (markIntS_any S1 s.ps _ k _ (H.out.ps.later (by exact bel)) (by omega)).mono ?_
 rintro e w1 ⟨rfl, hO1, hk1⟩
 have hz1 := hk1.size
 simp at hz1
 have B1 := (hk1.block w.heap.size (by simp) (fun e => by have := HSz.out _ (.inl e); omega)).trans (heap_alloc_new w _)
 obtain ⟨r0, r1, r2, r3, rf⟩ := stp_cells B1
 have zr := bsz (show w.heap.size < w1.heap.size by omega)
 have HK1 := Lib.hid (show Kept (fun b => S1 b ∨ S2 b ∨ S3 b) w w1 from ((Kept.refl _ w).below (by exact bel)).trans (hk1.mono (fun _ h => .inl h)))
 have HO1 := Lib.hid hO1
 have HB1 := Lib.hid B1
 have HW1 := Lib.hid (show IntOwn 3 S2 w1 s.wh _ from IntOwn.kept (H.out.wh.later ((Below.refl _ _).alloc (Nat.le_refl _) _)) hk1 (fun b e e' => (H.out.d1 b e').1 e))
 have HC1 := Lib.hid (show ClsOwn 64 81 (m + 1) S3 w1 s.c _ from ClsOwn.kept (H.out.c.later ((Below.refl _ _).alloc (Nat.le_refl _) _)) hk1 (fun b e e' => (H.out.d1 b e').2 e))
 clear hO1 hk1 B1
 go_wp2_with fail
 refine (markIntS_any S2 s.wh _ (k + s.ps.length) _ HW1.out (by omega)).mono ?_
 rintro e w2 ⟨rfl, hO2, hk2⟩
 have hz2 := hk2.size
 have B2 := (hk2.block w.heap.size (by omega) (fun e => by have := HSz.out _ (.inr (.inl e)); omega)).trans HB1.out
 obtain ⟨q0, q1, q2, q3, qf⟩ := stp_cells B2
 have zq := bsz (show w.heap.size < w2.heap.size by omega)
 have HK2 := Lib.hid (HK1.out.trans (hk2.mono (S' := fun b => S1 b ∨ S2 b ∨ S3 b) (fun _ h => .inr (.inl h))))
 have HO12 := Lib.hid (HO1.out.kept hk2 (fun b e e' => (H.out.d1 b e).1 e'))
 have HO2 := Lib.hid hO2
 have HC2 := Lib.hid (ClsOwn.kept HC1.out hk2 (fun b e e' => H.out.d2 b e' e))
 clear hO2 hk2 B2
 go_wp2_with fail
 refine (markClause_any m S3 s.c _ (k + s.ps.length + s.wh.length) _ HC2.out (by omega) (by omega)).mono ?_
 rintro e w3 ⟨L, k', rfl, hm, hl, hle, hO3, hk3⟩
 have HR := Lib.hid (And.intro hm (And.intro hO3 hk3))
 clear hm hO3 hk3
 go_wp2
 go_ret
 have e1 : (marksI k s.ps.length).length = s.ps.length := marksI_len _ _
 have e2 : (marksI (k + s.ps.length) s.wh.length).length = s.wh.length := marksI_len _ _
 refine ⟨⟨s.rule, marksI k s.ps.length, marksI (k + s.ps.length) s.wh.length, L⟩, k', rfl, rfl, e1, e2, hl, ⟨?_, ?_, ?_⟩, by omega, ⟨H.out.ru, ?_, ?_, HR.out.2.1, H.out.d1, H.out.d2⟩, HK2.out.trans (HR.out.2.2.mono (fun _ h => .inr (.inr h)))⟩
 ·simp only [e1]
 ·simp only [e1, e2]
 ·simp only [e1, e2]; exact HR.out.1
 ·exact HO12.out.kept HR.out.2.2 (fun b e e' => (H.out.d1 b e).2 e')
 ·exact HO2.out.kept HR.out.2.2 (fun b e e' => H.out.d2 b e e')
set_option maxHeartbeats 3200000 in
theorem heldStep_any {B : Nat → Prop} (m : Nat) (s : Stp) (v0 v1 v2 v3 : Value) (k k' : Nat) (w : World) (h : StpAt B (m + 1) w s [v0, v1, v2, v3]) (hm : StpMk s k k') (hk : 0 < k) (hb0 : k' ≤ 1000000) (hl : k + s.ps.length + s.wh.length ≤ 1000000) :
 Calls Tryz.prog 8 #[.agg #[v0, v1, v2, v3], .int .i64 (k : Nat)] w fun e w' => e = .returned (.int .i64 (k' : Nat)) ∧ Below w.heap.size w w' := by
 obtain ⟨p, c, q, d, r, g, rfl, rfl, rfl, rfl, -, l1, l2, l3, ha, hb, hc⟩ := h.form
 unfold maxLen at l1 l2 l3
 have HA := Lib.hid (show IntsAt B w (.slice p s.ps.length c) (marksI k s.ps.length) by rw [← hm.1]; exact ha)
 have HB := Lib.hid (show IntsAt B w (.slice q s.wh.length d) (marksI (k + s.ps.length) s.wh.length) by rw [← hm.2.1]; exact hb)
 have HC := Lib.hid hc
 have HM := Lib.hid hm.2.2
 clear h ha hb hc hm
 go_enter Tryz.func8, Tryz.ntmps8
 skip
 go_wp2_with fail
 refine (heldIntS_any s.ps.length _ k _ (HA.out.below (by exact bel)) (by omega)).mono ?_
 rintro e w1 ⟨rfl, hb1⟩
 have ⟨cw1, fw1⟩ := bcell hb1
 have qw1 := hb1.size
 (try simp at qw1)
 (try have zw1w := bsz (show w.heap.size < w1.heap.size by omega))
 (try have zw1_0 := bsz (show w.heap.size < w1.heap.size by omega))
 have hj0 : ¬ ((k + s.ps.length : Nat) : Int) < 0 := by omega
 go_wp2_with fail
 refine (heldIntS_any s.wh.length _ (k + s.ps.length) _ (HB.out.below (by exact bel)) (by omega)).mono ?_
 rintro e w2 ⟨rfl, hb2⟩
 have ⟨cw2, fw2⟩ := bcell hb2
 have qw2 := hb2.size
 (try simp at qw2)
 (try have zw2w := bsz (show w.heap.size < w2.heap.size by omega))
 (try have zw2w1 := bsz (show w1.heap.size < w2.heap.size by omega))
 (try have zw2_0 := bsz (show w.heap.size < w2.heap.size by omega))
 have hj1 : ¬ ((k + s.ps.length + s.wh.length : Nat) : Int) < 0 := by omega
 go_wp2_with fail
 refine (heldClause_any m s.c _ (k + s.ps.length + s.wh.length) k' _ (ClsAt.below (by exact bel) HC.out) HM.out (by omega) hb0).mono ?_
 rintro e w3 ⟨rfl, hb3⟩
 have ⟨cw3, fw3⟩ := bcell hb3
 have qw3 := hb3.size
 (try simp at qw3)
 (try have zw3w := bsz (show w.heap.size < w3.heap.size by omega))
 (try have zw3w1 := bsz (show w1.heap.size < w3.heap.size by omega))
 (try have zw3w2 := bsz (show w2.heap.size < w3.heap.size by omega))
 (try have zw3_0 := bsz (show w.heap.size < w3.heap.size by omega))
 have hj2 : ¬ (k' : Int) < 0 := by omega
 go_wp2
 go_ret
 exact ⟨rfl, by exact bel⟩
theorem rNum_bd (L : List UInt8) (p : PSt) : -999999 ≤ (rNum L p).1 ∧ (rNum L p).1 ≤ 999999 := rdInt_bd _
theorem rNum_pos (L : List UInt8) (p : PSt) (hp : p.pos ≤ L.length) : (rNum L p).2.pos ≤ L.length ∧ p.pos ≤ (rNum L p).2.pos := by
 have h : (digs L p).length ≤ (L.drop p.pos).length := (List.takeWhile_sublist _).length_le
 rw [List.length_drop] at h
 rw [rNum, rDig]; simp only
 split
 ·simp; exact hp
 ·omega
theorem rPos_pos (L : List UInt8) (p : PSt) (hp : p.pos ≤ L.length) : (rPos L p).2.pos ≤ L.length ∧ p.pos ≤ (rPos L p).2.pos := by
 have h : ((L.drop p.pos).takeWhile (fun c => c != 32)).length ≤ (L.drop p.pos).length := (List.takeWhile_sublist _).length_le
 rw [List.length_drop] at h
 rw [rPos, rPlc]; simp only
 split
 ·simp; exact hp
 ·omega
theorem rPos_len (L : List UInt8) (p : PSt) : (rPos L p).1.length ≤ 8 ∧ ∀ n ∈ (rPos L p).1, 0 ≤ n ∧ n ≤ 3 := by
 rw [rPos]; simp only
 rw [rdPos]
 split
 ·simp
 ·split
  ·split
   ·rename_i hb
    refine ⟨?_, posB_dec hb⟩
    simp only [posB, Bool.and_eq_true, decide_eq_true_eq] at hb
    exact hb.1
   ·simp
  ·simp
abbrev RdH (g : Nat) (s : ByteArray) (p : PSt) : (Nat → Prop) → World → Prop := fun F w => PAt 51 w g s p ∧ F g
theorem RdH.stab (g : Nat) (s : ByteArray) (p : PSt) : StabG (RdH g s p) := fun _ _ _ hs _ h => ⟨(hs g h.2).trans h.1, h.2⟩
abbrev zCells : Obj := .cells #[.int .i64 0, .slice none 0 0, .slice none 0 0, .slice none 0 0] 27 (0, 0)
structure RefSt (g sb rb : Nat) (s : ByteArray) (w : World) (rule : Int) (ps wh : List Int) (vp vw : Value) (Fp Fw : Nat → Prop) (p : PSt) (w1 : World) : Prop where
 rd : PAt 51 w1 g s p
 st : StB (rb + 1) g sb rule ps wh vp vw Fp Fw w1
 res : w1.heap[rb]? = some zCells
 gr : w.grownBy w1 (some g)
 pos : p.pos ≤ s.size
 lo : rb + 1 ≤ sb
def zS : Stp := ⟨0, [], [], []⟩
def etOk (s : ByteArray) : Bool := decide (s.size ≤ 12000) && iSok s.data.toList
def etS (s : ByteArray) : Stp := if etOk s then iS s.data.toList else zS
def etK (s : ByteArray) : Int := if etOk s then iSk s.data.toList else 0
def StsV (m : Nat) (ok : Bool) (st : Stp) (k : Int) (w : World) (e : Ending) (w' : World) : Prop :=
 Below w.heap.size w w' ∧ ∃ p c q d r g, ∃ S1 S2 S3 : Nat → Prop, e = .returned (.tuple #[.agg #[.int .i64 st.rule, .slice p st.ps.length c, .slice q st.wh.length d, .slice r st.c.length g], .int .i64 k, .bool ok]) ∧ StpOwn m S1 S2 S3 w' st (.slice p st.ps.length c) (.slice q st.wh.length d) (.slice r st.c.length g) ∧ ∀ b, S1 b ∨ S2 b ∨ S3 b → w.heap.size ≤ b ∧ b < w'.heap.size
theorem StsV.no {m : Nat} {s : ByteArray} {w w' : World} (h : etOk s = false) (hb : Below w.heap.size w w') : StsV m (etOk s) (etS s) (etK s) w (.returned (.tuple #[.agg #[.int .i64 0, .slice none 0 0, .slice none 0 0, .slice none 0 0], .int .i64 0, .bool false])) w' := by
 rw [etS, etK, h, if_neg (by simp), if_neg (by simp)]
 exact ⟨hb, none, 0, none, 0, none, 0, fun _ => False, fun _ => False, fun _ => False, rfl, ⟨by unfold i64B; exact ⟨by decide, by decide⟩, OwnRow.nil _ _ _ _ _, OwnRow.nil _ _ _ _ _, ClsOwn.nil _ _ _ _ _, fun b e => e.elim, fun b e => e.elim⟩, fun b e => by rcases e with e | e | e <;> exact e.elim⟩
theorem iMore_len (L : List UInt8) : ∀ (f : Nat) (p : PSt), (iMore L f p).1.length ≤ f
 | 0, p => by simp [iMore]
 | f + 1, p => by
  rw [iMore]
  split
  ·have := iMore_len L f (iNum L (pMust L sComma p)).2
   simp only [List.length_cons]; omega
  ·simp
theorem iMore_pos (L : List UInt8) : ∀ (f : Nat) (p : PSt), p.pos ≤ L.length → (iMore L f p).2.pos ≤ L.length
 | 0, p, h => by simpa [iMore] using h
 | f + 1, p, h => by
  rw [iMore]
  split
  ·exact iMore_pos L f _ (iNum_pos L _ (pMust_pos L sComma p h).2).1
  ·exact h
theorem iBin_pos (L : List UInt8) (x : Int) (p : PSt) (h : p.pos ≤ L.length) : (iBin L x p).2.pos ≤ L.length := by
 have h1 := (iNum_pos L p h).1
 rw [iBin]
 try simp only
 split
 ·rename_i hT
  have h2 := pTake_le hT h1
  exact (iNum_pos L _ (pMust_pos L _ _ (iNum_pos L _ h2).1).2).1
 ·have h2 := (iNum_pos L _ (pMust_pos L sRepl _ h1).2).1
  have h3 := (iPos_pos L _ (pMust_pos L sAt _ h2).2).1
  have h4 := (iNum_pos L _ (pMust_pos L sWithL _ h3).2).1
  have h5 := (pMust_pos L sRead _ h4).2
  rw [iSup]
  try simp only
  split
  ·rename_i hT
   exact pTake_le hT h5
  ·exact (pMust_pos L sRight _ h5).2
theorem iUn_pos (L : List UInt8) (x : Int) (p : PSt) (h : p.pos ≤ L.length) : (iUn L x p).2.pos ≤ L.length := by
 rw [iUn]
 split
 ·rename_i hT
  exact (iNum_pos L _ (pMust_pos L _ _ (iNum_pos L _ (pTake_le hT h)).1).2).1
 ·split
  ·rename_i hT
   exact (iNum_pos L _ (pTake_le hT h)).1
  ·exact iMore_pos L _ _ (iNum_pos L _ (pMust_pos L _ _ h).2).1
theorem iBin_len (L : List UInt8) (x : Int) (p : PSt) : (iBin L x p).1.ps.length ≤ 3 ∧ (iBin L x p).1.wh.length ≤ 11 ∧ 0 ≤ (iBin L x p).1.rule ∧ (iBin L x p).1.rule ≤ 6 ∧ (iBin L x p).1.c = [] := by
 rw [iBin]
 try simp only
 split
 ·simp [iRes]
 ·have := (iPos_len L (pMust L sAt (iNum L (pMust L sRepl (iNum L p).2)).2)).1
  rw [iSup]
  try simp only
  split <;> simp <;> omega
theorem iUn_len (L : List UInt8) (x : Int) (p : PSt) : (iUn L x p).1.ps.length ≤ L.length + 3 ∧ (iUn L x p).1.wh.length ≤ 11 ∧ 0 ≤ (iUn L x p).1.rule ∧ (iUn L x p).1.rule ≤ 6 ∧ (iUn L x p).1.c = [] := by
 rw [iUn]
 split
 ·simp
 ·split
  ·simp
  ·have := iMore_len L (L.length + 1) (iNum L (pMust L sRew p)).2
   simp; omega
theorem iOrg_len (L : List UInt8) (p : PSt) : (iOrg L p).1.ps.length ≤ L.length + 3 ∧ (iOrg L p).1.wh.length ≤ 11 ∧ 0 ≤ (iOrg L p).1.rule ∧ (iOrg L p).1.rule ≤ 6 ∧ (iOrg L p).1.c = [] := by
 rw [iOrg]
 try simp only
 split
 ·simp
 ·split
  ·have := iBin_len L (iNum L (pMust L sFrom p)).1 (pAdv sAnd (iNum L (pMust L sFrom p)).2)
   exact ⟨by omega, this.2⟩
  ·exact iUn_len L _ _
theorem hbo_i64 {n : Int} (h : -1000000 ≤ n ∧ n ≤ 999998) : i64B n := ⟨by omega, by omega⟩
theorem PAt.outs1 {T : TypeId} {g sb : Nat} {s : ByteArray} {p : PSt} {w : World} {o : Obj} {x : Value} {i : Nat} (h : PAt T w g s p) (hne : sb ≠ g) : PAt T ((w.setCell ⟨sb, i, none⟩ x).alloc o) g s p := by
 unfold PAt
 rw [Below.heap_alloc _ _ _ (by have := h.lt; simpa using this), heap_setCell_other _ _ _ _ (fun e => hne e.symm)]
 exact h
theorem StB.putP {lo g sb : Nat} {rule : Int} {w : World} (h : StB lo g sb rule [] [] (.slice none 0 0) (.slice none 0 0) (fun _ => False) (fun _ => False) w) (n : Int) (hb : i64B n) (hlo : lo ≤ sb) (hg : g < w.heap.size) :
  StB lo g sb rule [n] [] (.slice (some ⟨w.heap.size, 0, none⟩) 1 1) (.slice none 0 0) (fun b => b = w.heap.size) (fun _ => False) ((w.setCell ⟨sb, 1, none⟩ (.slice (some ⟨w.heap.size, 0, none⟩) 1 1)).alloc (.cells #[.int .i64 n] 3)) := by
 have hk := blk_lt h.box
 have h2 := heap_setCell_same _ sb 1 _ 27 (.slice (some ⟨w.heap.size, 0, none⟩) 1 1) h.box
 refine ⟨(Below.heap_alloc _ _ sb (by simpa using hk)).trans (by simpa using h2), ?_, OwnRow.nil _ _ _ _ _, fun b e => ⟨by omega, by simp; omega, by omega, by omega, fun h => h⟩, fun b e => e.elim⟩
 have := intNew (w.setCell ⟨sb, 1, none⟩ (.slice (some ⟨w.heap.size, 0, none⟩) 1 1)) [n] (by simp [maxLen]) (by simpa using hb)
 simpa [intW] using this
structure EtsSt (g sb rb : Nat) (s : ByteArray) (w : World) (rule : Int) (ps wh : List Int) (vp vw : Value) (Fp Fw : Nat → Prop) (p : PSt) (w1 : World) : Prop where
 rd : PAt 35 w1 g s p
 st : StB (rb + 1) g sb rule ps wh vp vw Fp Fw w1
 ev : EnvP (rb + 1) w1
 res : w1.heap[rb]? = some (.cells #[.int .i64 0, .slice none 0 0, .slice none 0 0, .slice none 0 0] 27 (0, 0))
 be : Below w.heap.size w w1
 pos : p.pos ≤ s.size
theorem EtsSt.kp {g sb rb : Nat} {s : ByteArray} {w : World} {rule rule' : Int} {ps wh ps' wh' : List Int} {vp vw vp' vw' : Value} {Fp Fw Fp' Fw' : Nat → Prop} {p p' : PSt} {w1 w2 : World} {X : Nat → Prop} (h : EtsSt g sb rb s w rule ps wh vp vw Fp Fw p w1) (hk : Kp X w1 w2) (hX : ∀ b, X b → rb + 1 ≤ b) (hrb : w.heap.size ≤ rb) (hr : PAt 35 w2 g s p') (hs : StB (rb + 1) g sb rule' ps' wh' vp' vw' Fp' Fw' w2) (hp : p'.pos ≤ s.size) : EtsSt g sb rb s w rule' ps' wh' vp' vw' Fp' Fw' p' w2 :=
 ⟨hr, hs, h.ev.kp hk hX, (hk.block rb (blk_lt h.res) (fun e => by have := hX _ e; omega)).trans h.res, ⟨hk.os.trans h.be.os, hk.tape.trans h.be.tape, hk.output.trans h.be.output, Nat.le_trans h.be.size hk.size, fun b hb => (hk.block b (Nat.lt_of_lt_of_le hb h.be.size) (fun e => by have := hX _ e; omega)).trans (h.be.block b hb)⟩, hp⟩
theorem EtsSt.step {g sb rb : Nat} {s : ByteArray} {w : World} {rule : Int} {ps wh : List Int} {vp vw : Value} {Fp Fw : Nat → Prop} {p p' : PSt} {w1 w2 : World} (h : EtsSt g sb rb s w rule ps wh vp vw Fp Fw p w1) (hr : PAt 35 w2 g s p') (hg : w1.grownBy w2 (some g)) (hp : p'.pos ≤ s.size) (hne : sb ≠ g) (hrg : rb < g) (hrb : w.heap.size ≤ rb) : EtsSt g sb rb s w rule ps wh vp vw Fp Fw p' w2 :=
 h.kp (Kp.of_gr hg) (fun b e => by injection e with e; omega) hrb hr (h.st.gr hg hne) hp
theorem StpOwn.mono {m : Nat} {S1 S2 S3 : Nat → Prop} {w w' : World} {s : Stp} {v1 v2 v3 : Value} (h : StpOwn m S1 S2 S3 w s v1 v2 v3) (hs : ∀ b, S1 b ∨ S2 b ∨ S3 b → w'.heap[b]? = w.heap[b]?) : StpOwn m S1 S2 S3 w' s v1 v2 v3 :=
 ⟨h.ru, h.ps.mono (fun b hb _ => hs b (.inl hb)) (fun _ h => h), h.wh.mono (fun b hb _ => hs b (.inr (.inl hb))) (fun _ h => h), ClsOwn.mono (Nat.le_refl _) (fun b hb _ => hs b (.inr (.inr hb))) (fun _ h => h) h.c, h.d1, h.d2⟩
theorem sc4_eq (w : World) (rb : Nat) (x0 x1 x2 x3 : Value) {b : Nat} (hb : b ≠ rb) : ((((w.setCell ⟨rb, 0, none⟩ x0).setCell ⟨rb, 1, none⟩ x1).setCell ⟨rb, 2, none⟩ x2).setCell ⟨rb, 3, none⟩ x3).heap[b]? = w.heap[b]? := by
 rw [heap_setCell_other _ _ _ _ hb, heap_setCell_other _ _ _ _ hb, heap_setCell_other _ _ _ _ hb, heap_setCell_other _ _ _ _ hb]
theorem iC_wts (s : ByteArray) : (iC s).length + Cls.wts (iC s) ≤ 20000 := by
 have h2 := iC_le s
 have h3 : Cls.wts (iC s) ≤ 12000 := by
  rw [iC]
  split
  ·simp [Cls.wts]
  ·split
   ·cases hi : iFm s with
    | none => simp [Cls.wts]
    | some c =>
     have hf : iFm s = if etfOk s then clsOf ((etfF s).sz + 1) (etfF s) else none := rfl
     rw [hi] at hf
     cases hk : etfOk s
     ·rw [hk] at hf; cases hf
     ·rw [hk, if_pos rfl] at hf
      have hg := etfF_good hk
      have := clsOf_wts _ _ _ hg.1 hf.symm
      simp only [Option.getD_some]; omega
   ·simp [Cls.wts]
 omega
set_option maxHeartbeats 6400000 in
theorem implETS_any (s : ByteArray) (hs : s.size ≤ 1000000000000) (w : World) (hE : Env w) (hV : EnvE w) : Calls Tryz.prog 5 #[.string s] w (StsV 24008 (etOk s) (etS s) (etK s) w) := by
 by_cases hz : s.size ≤ 12000
 case neg =>
  have HNO := Lib.hid (show etOk s = false by rw [etOk, show decide (s.size ≤ 12000) = false by simpa using hz]; rfl)
  go_enter Tryz.func5, Tryz.ntmps5
  go_wp2
  refine bodyPost_ret (v := .tuple #[.agg #[.int .i64 0, .slice none 0 0, .slice none 0 0, .slice none 0 0], .int .i64 0, .bool false]) (by simp only [results, Tryz.results5]; go_simp) rfl (StsV.no HNO.out (by exact bel))
 have HOK := Lib.hid (show etOk s = iSok s.data.toList by rw [etOk, show decide (s.size ≤ 12000) = true by simpa using hz]; rfl)
 have HE := Lib.hid hE
 have HV := Lib.hid hV
 clear hE hV
 obtain ⟨rb, hrb⟩ : ∃ rb, w.heap.size = rb := ⟨_, rfl⟩
 obtain ⟨g, hgd⟩ : ∃ g, rb + 1 = g := ⟨_, rfl⟩
 have hrg : rb < g := by omega
 have hrbw : w.heap.size ≤ rb := by omega
 obtain ⟨W, hW⟩ : ∃ W : World, W = (w.alloc (.cells #[.int .i64 0, .slice none 0 0, .slice none 0 0, .slice none 0 0] 27)).alloc (.cells #[.string s, .int .i64 0, .bool false] 35) := ⟨_, rfl⟩
 have hP0 : PAt 35 W g s ⟨0, false⟩ := by rw [hW]; exact alloc_new_at (by simp; omega)
 have hR0 : W.heap[rb]? = some zCells := by rw [hW, ← hrb]; exact (hao (w.alloc _) _ _ (by simp)).trans (heap_alloc_new w _)
 have hb0 : Below w.heap.size w W := by rw [hW]; exact bel
 have hV0 : EnvP (rb + 1) W := ⟨w, by omega, HE.out, HV.out, hb0⟩
 obtain ⟨k, hk⟩ : ∃ k, iNum s.data.toList ⟨0, false⟩ = k := ⟨_, rfl⟩
 have HK := Lib.hid hk
 have nbk := iNum_bd s.data.toList ⟨0, false⟩
 have npk := iNum_pos s.data.toList ⟨0, false⟩ (Nat.zero_le _)
 rw [hk] at nbk npk
 rw [← size_list] at npk
 go_enter Tryz.func5, Tryz.ntmps5
 go_wp2_with fail
 rw [← hW]
 refine (number_any (lo := rb + 1) g s ⟨0, false⟩ W hP0 (Nat.zero_le _) (by omega) hV0 (by omega)).mono ?_
 rw [hk]
 rintro e w1 ⟨v, rfl, rfl, hP1, hg1⟩
 obtain ⟨p1, hp1⟩ : ∃ p1, pMust s.data.toList sDot k.2 = p1 := ⟨_, rfl⟩
 have HP1 := Lib.hid hp1
 have hpp1 := pMust_pos s.data.toList sDot k.2 (by rw [← size_list]; exact npk.1)
 rw [hp1, ← size_list] at hpp1
 go_wp2_with fail
 refine (must_any g s (⟨sDot.toArray⟩ : ByteArray) k.2 w1 hP1 npk.1 (by omega) (by decide)).mono ?_
 rw [show (⟨sDot.toArray⟩ : ByteArray).data.toList = sDot from rfl, hp1]
 rintro e w2 ⟨v, rfl, rfl, hP2, hg2⟩
 have hWs : W.heap.size = rb + 2 := by rw [hW]; simp; omega
 have hz1 := hg1.size
 have hz2 := hg2.size
 obtain ⟨sb, hsb⟩ : ∃ sb, w2.heap.size = sb := ⟨_, rfl⟩
 have hne : sb ≠ g := by omega
 obtain ⟨W2, hW2⟩ : ∃ W2 : World, W2 = w2.alloc (.cells #[.int .i64 0, .slice none 0 0, .slice none 0 0, .slice none 0 0] 27) := ⟨_, rfl⟩
 have HB0 := Lib.hid (show EtsSt g sb rb s w 0 [] [] (.slice none 0 0) (.slice none 0 0) (fun _ => False) (fun _ => False) p1 W2 by
  have hB : Below w2.heap.size w2 W2 := by rw [hW2]; exact bel
  have hgg := gr_trans hg1 hg2
  have hb2 : Below w.heap.size w w2 := ⟨hgg.os.trans hb0.os, hgg.tape.trans hb0.tape, hgg.output.trans hb0.output, by omega, fun b hb => (hgg.block b (by omega) (by simp; omega)).trans (hb0.block b hb)⟩
  refine ⟨hP2.below hB, ⟨?_, OwnRow.nil _ _ _ _ _, OwnRow.nil _ _ _ _ _, fun b e => e.elim, fun b e => e.elim⟩, ((hV0.gr hg1 (by omega)).gr hg2 (by omega)).below hB, ?_, Below.step hb2 hB, hpp1.2⟩
  ·rw [hW2, ← hsb]; exact heap_alloc_new w2 _
  ·exact (hB.block rb (by omega)).trans ((hgg.block rb (by omega) (by simp; omega)).trans hR0))
 clear hP0 hR0 hb0 hV0 hk hP1 hg1 hp1 hP2 hg2
 go_wp2_with fail
 rw [← hW2]
 clear hW hW2
 refine (take_any g s (⟨sByAx.toArray⟩ : ByteArray) p1 W2 HB0.out.rd HB0.out.pos (by omega) (by decide)).mono ?_
 rw [show (⟨sByAx.toArray⟩ : ByteArray).data.toList = sByAx from rfl]
 rintro e wt ⟨v, rfl, rfl, hPt, hgt⟩
 cases hTA : pTake s.data.toList sByAx p1
 case' true =>
  rw [hTA, if_pos rfl] at hPt
  have hpt := pTake_le hTA (by rw [← size_list]; exact HB0.out.pos)
  rw [← size_list] at hpt
  obtain ⟨p3, hp3⟩ : ∃ p3, pAdv sByAx p1 = p3 := ⟨_, rfl⟩
  have hpt : p3.pos ≤ s.size := by rw [← hp3]; exact hpt
  have HP3 := Lib.hid hp3
  rw [hp3] at hPt
  have HB1 := Lib.hid (HB0.out.step hPt hgt hpt hne hrg hrbw)
  clear hPt hgt hp3
  obtain ⟨a, ha⟩ : ∃ a, iNum s.data.toList p3 = a := ⟨_, rfl⟩
  have HA := Lib.hid ha
  go_wp2_with fail
  refine (number_any g s p3 _ HB1.out.rd HB1.out.pos (by omega) HB1.out.ev (by omega)).mono ?_
  rw [ha]
  rintro e wna ⟨v, rfl, rfl, hPn, hgn⟩
  have HB2 := Lib.hid (HB1.out.step hPn hgn (by have := iNum_pos s.data.toList p3 (by rw [← size_list]; exact HB1.out.pos); rw [ha, ← size_list] at this; exact this.1) hne hrg hrbw)
  have nba := iNum_bd s.data.toList p3
  rw [ha] at nba
  clear hPn hgn ha
  have HOE := Lib.hid (show iOrg s.data.toList p1 = (⟨1, [], [a.1], []⟩, a.2) by rw [iOrg, if_pos hTA]; simp only [HP3.out, HA.out])
  obtain ⟨c0, c1, c2, c3, cf⟩ := stp_cells HB2.out.st.box
  have zk := bsz (blk_lt HB2.out.st.box)
  have hbo := hbo_i64 nba
  go_wp2_with fail
  clear c0 c1 c2 c3 cf
  have HME : ∃ (o : Stp) (vp vw : Value) (Fp Fw : Nat → Prop) (pE : PSt), iOrg s.data.toList p1 = (o, pE) ∧ EtsSt g sb rb s w o.rule o.ps o.wh vp vw Fp Fw pE _ := ⟨⟨1, [], [a.1], []⟩, _, _, _, _, a.2, HOE.out, HB2.out.kp (X := fun b => b = sb) ((((Kp.refl (fun b => b = sb) _).sc (a := ⟨sb, 0, none⟩) (.inl rfl) _).sc (a := ⟨sb, 2, none⟩) (.inl rfl) _).alloc _) (fun b e => by omega) hrbw (HB2.out.rd.outs hne) (HB2.out.st.put 1 [a.1] (by simp [maxLen]) (by intro n hn; simp only [List.mem_singleton] at hn; subst hn; exact hbo) (by omega) HB2.out.rd.lt) HB2.out.pos⟩
  have HME := Lib.hid HME
  clear HOE HB2 HB1 HB0
 case' false =>
  rw [hTA, if_neg (by simp)] at hPt
  have HB1 := Lib.hid (HB0.out.step hPt hgt HB0.out.pos hne hrg hrbw)
  clear hPt hgt
  obtain ⟨p3, hp3⟩ : ∃ p3, pMust s.data.toList sFrom p1 = p3 := ⟨_, rfl⟩
  have HP3 := Lib.hid hp3
  go_wp2_with fail
  refine (must_any g s (⟨(sFrom).toArray⟩ : ByteArray) p1 _ HB1.out.rd HB1.out.pos (by omega) (by decide)).mono ?_
  rw [show (⟨(sFrom).toArray⟩ : ByteArray).data.toList = sFrom from rfl, hp3]
  rintro e wmp3 ⟨v, rfl, rfl, hPn, hgn⟩
  have HB2 := Lib.hid (HB1.out.step hPn hgn (by have := pMust_pos s.data.toList sFrom p1 (by rw [← size_list]; exact HB1.out.pos); rw [hp3, ← size_list] at this; exact this.2) hne hrg hrbw)
  clear hPn hgn hp3
  obtain ⟨a, ha⟩ : ∃ a, iNum s.data.toList p3 = a := ⟨_, rfl⟩
  have HA := Lib.hid ha
  go_wp2_with fail
  refine (number_any g s p3 _ HB2.out.rd HB2.out.pos (by omega) HB2.out.ev (by omega)).mono ?_
  rw [ha]
  rintro e wna ⟨v, rfl, rfl, hPn, hgn⟩
  have HB3 := Lib.hid (HB2.out.step hPn hgn (by have := iNum_pos s.data.toList p3 (by rw [← size_list]; exact HB2.out.pos); rw [ha, ← size_list] at this; exact this.1) hne hrg hrbw)
  have nba := iNum_bd s.data.toList p3
  rw [ha] at nba
  clear hPn hgn ha
  obtain ⟨c0, c1, c2, c3, cf⟩ := stp_cells HB3.out.st.box
  have zk := bsz (blk_lt HB3.out.st.box)
  have hbo := hbo_i64 nba
  go_wp2_with fail
  clear c0 c1 c2 c3 cf
  have HB4 := Lib.hid (HB3.out.kp (X := fun b => b = sb) (((Kp.refl (fun b => b = sb) _).sc (a := ⟨sb, 1, none⟩) (.inl rfl) _).alloc _) (fun b e => by omega) hrbw (HB3.out.rd.outs1 hne) (HB3.out.st.putP a.1 hbo (by omega) HB3.out.rd.lt) HB3.out.pos)
  have HOE := Lib.hid (show iOrg s.data.toList p1 = if pTake s.data.toList sAnd a.2 then iBin s.data.toList a.1 (pAdv sAnd a.2) else iUn s.data.toList a.1 a.2 by rw [iOrg, if_neg (by rw [hTA]; simp)]; simp only [HP3.out, HA.out])
  refine (take_any g s (⟨sAnd.toArray⟩ : ByteArray) a.2 _ HB4.out.rd HB4.out.pos (by omega) (by decide)).mono ?_
  rw [show (⟨sAnd.toArray⟩ : ByteArray).data.toList = sAnd from rfl]
  rintro e wt ⟨v, rfl, rfl, hPt, hgt⟩
  cases hTB : pTake s.data.toList sAnd a.2
  case' true =>
   rw [hTB, if_pos rfl] at hPt
   have hpt := pTake_le hTB (by rw [← size_list]; exact HB4.out.pos)
   rw [← size_list] at hpt
   obtain ⟨p5, hp5⟩ : ∃ p5, pAdv sAnd a.2 = p5 := ⟨_, rfl⟩
   have hpt : p5.pos ≤ s.size := by rw [← hp5]; exact hpt
   have HP5 := Lib.hid hp5
   rw [hp5] at hPt
   have HB5 := Lib.hid (HB4.out.step hPt hgt hpt hne hrg hrbw)
   clear hPt hgt hp5
   go_wp2_with fail
   refine (binaryStep_any (lo := rb + 1) g sb s p5 a.1 _ _ _ HB5.out.rd HB5.out.st HB5.out.pos (by omega) HB5.out.ev (by omega) (by omega) hne).mono ?_
   rintro e w6 ⟨rfl, vp', vw', Fp', Fw', hst, hrd, hkp⟩
   have HME : ∃ (o : Stp) (vp vw : Value) (Fp Fw : Nat → Prop) (pE : PSt), iOrg s.data.toList p1 = (o, pE) ∧ EtsSt g sb rb s w o.rule o.ps o.wh vp vw Fp Fw pE _ := ⟨(iBin s.data.toList a.1 p5).1, _, _, _, _, (iBin s.data.toList a.1 p5).2, by rw [HOE.out, hTB, if_pos rfl, HP5.out], HB5.out.kp hkp (fun b e => e.elim (fun e => by omega) (fun e => e.elim (fun e => by omega) (fun e => (HB5.out.st.fp b e).1))) hrbw hrd hst (by have := iBin_pos s.data.toList a.1 p5 (by rw [← size_list]; exact HB5.out.pos); rw [← size_list] at this; exact this)⟩
   have HME := Lib.hid HME
   clear hst hrd hkp HB5 HB4 HB3 HB2 HB1 HB0
  case' false =>
   rw [hTB, if_neg (by simp)] at hPt
   have HB5 := Lib.hid (HB4.out.step hPt hgt HB4.out.pos hne hrg hrbw)
   clear hPt hgt
   go_wp2_with fail
   refine (unaryStep_any (lo := rb + 1) g sb s a.2 a.1 _ _ _ HB5.out.rd HB5.out.st HB5.out.pos (by omega) HB5.out.ev (by omega) (by omega) hne).mono ?_
   rintro e w6 ⟨rfl, vp', vw', Fp', Fw', hst, hrd, hkp⟩
   have HME : ∃ (o : Stp) (vp vw : Value) (Fp Fw : Nat → Prop) (pE : PSt), iOrg s.data.toList p1 = (o, pE) ∧ EtsSt g sb rb s w o.rule o.ps o.wh vp vw Fp Fw pE _ := ⟨(iUn s.data.toList a.1 a.2).1, _, _, _, _, (iUn s.data.toList a.1 a.2).2, by rw [HOE.out, hTB, if_neg (by simp)], HB5.out.kp hkp (fun b e => e.elim (fun e => by omega) (fun e => e.elim (fun e => by omega) (fun e => (HB5.out.st.fp b e).1))) hrbw hrd hst (by have := iUn_pos s.data.toList a.1 a.2 (by rw [← size_list]; exact HB5.out.pos); rw [← size_list] at this; exact this)⟩
   have HME := Lib.hid HME
   clear hst hrd hkp HB5 HB4 HB3 HB2 HB1 HB0
 all_goals
  obtain ⟨o, vp, vw, Fp, Fw, pE, hoe, hbe⟩ := HME.out
  clear HME
  have HOE := Lib.hid hoe
  have HBE := Lib.hid hbe
  clear hoe hbe
  obtain ⟨pM, hpM⟩ : ∃ pM, pMust s.data.toList sComma pE = pM := ⟨_, rfl⟩
  have HPM := Lib.hid hpM
  go_wp2_with fail
  refine (must_any g s (⟨(sComma).toArray⟩ : ByteArray) pE _ HBE.out.rd HBE.out.pos (by omega) (by decide)).mono ?_
  rw [show (⟨(sComma).toArray⟩ : ByteArray).data.toList = sComma from rfl, hpM]
  rintro e wmpM ⟨v, rfl, rfl, hPn, hgn⟩
  have HBM := Lib.hid (HBE.out.step hPn hgn (by have := pMust_pos s.data.toList sComma pE (by rw [← size_list]; exact HBE.out.pos); rw [hpM, ← size_list] at this; exact this.2) hne hrg hrbw)
  clear hPn hgn hpM
  have HST := Lib.hid (show iStp s.data.toList = (k.1, o, pM) by rw [iStp]; simp only [HK.out, HP1.out, HOE.out, HPM.out])
  have hol := iOrg_len s.data.toList p1
  rw [HOE.out, ← size_list] at hol
  have hpm := HBM.out.pos
  obtain ⟨d0, d1, d2, df⟩ := HBM.out.rd.cells
  have zd := bsz HBM.out.rd.lt
  obtain ⟨r0, r1, r2, r3, rf⟩ := stp_cells HBM.out.res
  have zr := bsz (blk_lt HBM.out.res)
  cases hbad : pM.bad
  case true =>
   have HNO := Lib.hid (show etOk s = false by rw [HOK.out, iSok, HST.out, hbad]; rfl)
   rw [hbad] at d2
   have hbe := HBM.out.be
   go_wp2
   refine bodyPost_ret (v := .tuple #[.agg #[.int .i64 0, .slice none 0 0, .slice none 0 0, .slice none 0 0], .int .i64 0, .bool false]) (by simp only [results, Tryz.results5]; go_simp) rfl (StsV.no HNO.out (by exact bel))
  rw [hbad] at d2
  obtain ⟨t, ht⟩ : ∃ t, iClT s.data.toList pM = t := ⟨_, rfl⟩
  have htz : t.size ≤ 12000 := by
   rw [← ht, iClT, baL_size]
   have : (Lib.trimSuffix (s.data.toList.drop pM.pos) [46]).length ≤ (s.data.toList.drop pM.pos).length := by rw [Lib.trimSuffix]; split <;> simp
   rw [List.length_drop, ← size_list] at this
   omega
  have HTS := Lib.hid (fun w' => Tryz.strings_TrimSuffix (s.extract pM.pos s.size) (⟨#[46]⟩ : ByteArray) w' (by rw [ByteArray.size_extract]; omega))
  rw [extract_list, size_list, List.take_length, show (⟨#[46]⟩ : ByteArray).data.toList = [46] from rfl, show (⟨(Lib.trimSuffix (s.data.toList.drop pM.pos) [46]).toArray⟩ : ByteArray) = t from ht] at HTS
  go_wp2_with fail
  refine (HTS.out _).mono ?_
  rintro e wM ⟨rfl, rfl⟩
  have HC := Lib.hid (implETC_any t (by omega))
  go_wp2_with fail
  refine (HC.out _).mono ?_
  rintro e w7 ⟨hb7, pc, kc, dc, rfl, hoc⟩
  obtain ⟨q1, c1, rfl, l1⟩ := HBM.out.st.ps.form
  obtain ⟨q2, c2, rfl, l2⟩ := HBM.out.st.wh.form
  obtain ⟨pc', dc', hvc, l3⟩ := OwnRow.form hoc
  simp only [Value.slice.injEq] at hvc
  obtain ⟨rfl, rfl, rfl⟩ := hvc
  have hq7 := hb7.size
  have zsb := blk_lt HBM.out.st.box
  have zrb := blk_lt HBM.out.res
  obtain ⟨x0, x1, x2, x3, xf⟩ := stp_cells ((hb7.block _ zsb).trans HBM.out.st.box)
  have zx := bsz (Nat.lt_of_lt_of_le zsb hb7.size)
  obtain ⟨st, hst⟩ : ∃ st : Stp, st = ⟨o.rule, o.ps, o.wh, iC t⟩ := ⟨_, rfl⟩
  have HIS := Lib.hid (show iS s.data.toList = st ∧ iSk s.data.toList = k.1 from ⟨by rw [iS, HST.out, hst]; simp only [ht], by rw [iSk, HST.out]⟩)
  obtain ⟨W8, hW8⟩ : ∃ W8 : World, W8 = (w7.setCell ⟨sb, 3, none⟩ (.slice pc (iC t).length dc)).alloc (.cells #[.slice pc (iC t).length dc] 25) := ⟨_, rfl⟩
  have hkp := ((((Kp.refl (fun b => b = sb) wM).be hb7).sc (a := ⟨sb, 3, none⟩) (.inl rfl) (.slice pc (iC t).length dc)).alloc (.cells #[.slice pc (iC t).length dc] 25))
  rw [← hW8] at hkp
  have hq8 := hkp.size
  have hz8 : W8.heap.size = w7.heap.size + 1 := by rw [hW8]; simp
  have hfp : ∀ b, Fp b → b < wM.heap.size ∧ b ≠ sb ∧ rb + 1 ≤ b ∧ ¬ Fw b := fun b e => ⟨(HBM.out.st.fp b e).2.1, (HBM.out.st.fp b e).2.2.1, (HBM.out.st.fp b e).1, (HBM.out.st.fp b e).2.2.2.2⟩
  have hfw : ∀ b, Fw b → b < wM.heap.size ∧ b ≠ sb ∧ rb + 1 ≤ b := fun b e => ⟨(HBM.out.st.fw b e).2.1, (HBM.out.st.fw b e).2.2.1, (HBM.out.st.fw b e).1⟩
  have HOW := Lib.hid (show StpOwn 24008 Fp Fw (NewB wM w7) W8 st (.slice q1 o.ps.length c1) (.slice q2 o.wh.length c2) (.slice pc (iC t).length dc) by
   rw [hst]
   refine ⟨⟨by show _ ≤ o.rule; omega, by show o.rule ≤ _; omega⟩, HBM.out.st.ps.mono (fun b hb hl => hkp.block b hl (hfp b hb).2.1) (fun _ h => h), HBM.out.st.wh.mono (fun b hb hl => hkp.block b hl (hfw b hb).2.1) (fun _ h => h), ClsOwn.mono (show 2 * t.size + 7 ≤ 24008 by omega) (fun b hb hl => ?_) (fun _ h => h) hoc, fun b e => ⟨(hfp b e).2.2.2, fun e' => by have := e'.1; have := (hfp b e).1; omega⟩, fun b e e' => by have := e'.1; have := (hfw b e).1; omega⟩
   rw [hW8, Below.heap_alloc _ _ _ (by simpa using hl), heap_setCell_other _ _ _ _ (by have := hb.1; show b ≠ sb; omega)])
  have HE8 := Lib.hid ((HBM.out.ev.kp hkp (fun b e => by omega)).env.1)
  have HB8 := Lib.hid (show Below w.heap.size w W8 from ⟨hkp.os.trans HBM.out.be.os, hkp.tape.trans HBM.out.be.tape, hkp.output.trans HBM.out.be.output, Nat.le_trans HBM.out.be.size hkp.size, fun b hb => (hkp.block b (Nat.lt_of_lt_of_le hb HBM.out.be.size) (by omega)).trans (HBM.out.be.block b hb)⟩)
  have HR8 := Lib.hid (show W8.heap[rb]? = some zCells from (hkp.block rb zrb (by omega)).trans HBM.out.res)
  have HX8 := Lib.hid (show W8.heap[sb]? = some (.cells #[.int .i64 o.rule, .slice q1 o.ps.length c1, .slice q2 o.wh.length c2, .slice pc (iC t).length dc] 27 (0, 0)) by
   rw [hW8, Below.heap_alloc _ _ _ (by simp; omega)]
   have := heap_setCell_same w7 sb 3 _ 27 (.slice pc (iC t).length dc) ((hb7.block _ zsb).trans HBM.out.st.box)
   simpa using this)
  have hcw := iC_wts t
  have hwt : st.wt ≤ 1048576 := by rw [hst, Stp.wt]; simp only; omega
  have HSC := Lib.hid (show st.rule = o.rule ∧ st.ps = o.ps ∧ st.wh = o.wh ∧ st.c = iC t by rw [hst]; exact ⟨rfl, rfl, rfl, rfl⟩)
  have hcp := own_cap HBM.out.st.ps _ _ rfl
  have hcq := own_cap HBM.out.st.wh _ _ rfl
  have hcr := own_cap hoc _ _ rfl
  have HSTE := Lib.hid (implSTE_any 24008 st q1 q2 pc c1 c2 dc k.1 W8 (by have := HOW.out.at_; rw [HSC.out.2.1, HSC.out.2.2.1, HSC.out.2.2.2]; exact this) (by rw [HSC.out.2.1]; exact hcp) (by rw [HSC.out.2.2.1]; exact hcq) (by rw [HSC.out.2.2.2]; exact hcr) hwt HE8.out)
  rw [HSC.out.1, HSC.out.2.1, HSC.out.2.2.1, HSC.out.2.2.2] at HSTE
  have HSD := Lib.hid hst
  clear hoc hkp hst hcp hcq hcr hcw l1 l2 l3
  go_wp2_with fail
  rw [← hW8]
  clear hW8
  refine HSTE.out.mono ?_
  rintro e w9 ⟨rfl, hb9⟩
  have HOK2 := Lib.hid (show etOk s = (iOk t && (st.good k.1 && (st.eng k.1 == s.data.toList))) by rw [HOK.out, iSok, HIS.out.1, HIS.out.2, HST.out, hbad]; simp only [ht]; rfl)
  have zsb9 := blk_lt HX8.out
  have zrb9 := blk_lt HR8.out
  have hq9 := hb9.size
  clear x0 x1 x2 x3 xf r0 r1 r2 r3 rf d0 d1 d2 df zx zr zd
  obtain ⟨x0, x1, x2, x3, xf⟩ := stp_cells ((hb9.block _ zsb9).trans HX8.out)
  obtain ⟨r0, r1, r2, r3, rf⟩ := stp_cells ((hb9.block _ zrb9).trans HR8.out)
  have zx := bsz (Nat.lt_of_lt_of_le zsb9 hq9)
  have zr := bsz (Nat.lt_of_lt_of_le zrb9 hq9)
  have hbe9 : Below w.heap.size w w9 := Below.step HB8.out hb9
  cases h1 : iOk t
  ·have HNO := Lib.hid (show etOk s = false by rw [HOK2.out, h1]; rfl)
   go_wp2
   refine bodyPost_ret (v := .tuple #[.agg #[.int .i64 0, .slice none 0 0, .slice none 0 0, .slice none 0 0], .int .i64 0, .bool false]) (by simp only [results, Tryz.results5]; go_simp) rfl (StsV.no HNO.out (by exact bel))
  cases h2 : st.good k.1
  ·have HNO := Lib.hid (show etOk s = false by rw [HOK2.out, h1, h2]; rfl)
   go_wp2
   refine bodyPost_ret (v := .tuple #[.agg #[.int .i64 0, .slice none 0 0, .slice none 0 0, .slice none 0 0], .int .i64 0, .bool false]) (by simp only [results, Tryz.results5]; go_simp) rfl (StsV.no HNO.out (by exact bel))
  rw [show st.engG k.1 = st.eng k.1 by rw [Stp.engG, if_pos h2]]
  by_cases h3 : st.eng k.1 = s.data.toList
  ·have HYES := Lib.hid (show etOk s = true by rw [HOK2.out, h1, h2, h3]; simp)
   rw [show (⟨(st.eng k.1).toArray⟩ : ByteArray) = s from (ba_iff _ _).2 h3]
   clear h1 h2 h3
   go_wp2
   refine bodyPost_ret (v := .tuple #[.agg #[.int .i64 o.rule, .slice q1 o.ps.length c1, .slice q2 o.wh.length c2, .slice pc (iC t).length dc], .int .i64 k.1, .bool true]) (by simp only [results, Tryz.results5]; go_simp) rfl ?_
   rw [etS, etK, HYES.out, if_pos rfl, if_pos rfl, HIS.out.1, HIS.out.2]
   obtain rfl := HSD.out
   refine ⟨by exact bel, q1, c1, q2, c2, pc, dc, Fp, Fw, NewB wM w7, rfl, (HOW.out.later hb9).mono (fun b hb => sc4_eq _ _ _ _ _ _ ?_), fun b hb => ?_⟩
   ·rcases hb with hb | hb | hb
    ·have := (hfp b hb).2.2.1; omega
    ·have := (hfw b hb).2.2; omega
    ·have := hb.1; omega
   ·simp only [World.size_setCell]
    rcases hb with hb | hb | hb
    ·have := hfp b hb; exact ⟨by omega, by omega⟩
    ·have := hfw b hb; exact ⟨by omega, by omega⟩
    ·have := hb.1; have := hb.2; exact ⟨by omega, by omega⟩
  ·have HNO := Lib.hid (show etOk s = false by rw [HOK2.out, h1, h2]; simpa using h3)
   have hne3 : ((⟨(st.eng k.1).toArray⟩ : ByteArray).toList == s.toList) = false := by rw [Lib.toList_data, Lib.toList_data]; simpa using h3
   have hne5 : (st.eng k.1 == s.toList) = false := by rw [Lib.toList_data]; simpa using h3
   have hne4 : ¬ (⟨(st.eng k.1).toArray⟩ : ByteArray) = s := fun e => h3 ((ba_iff _ _).1 e)
   go_wp2
   refine bodyPost_ret (v := .tuple #[.agg #[.int .i64 0, .slice none 0 0, .slice none 0 0, .slice none 0 0], .int .i64 0, .bool false]) (by simp only [results, Tryz.results5]; go_simp) rfl (StsV.no HNO.out (by exact bel))
end Go.Proofs.YtabkdonplmlbcaaGreatDoor
