import Derived.Test.YtabkdonplmlbcaaGreatDoorStPart28
namespace Go.Proofs.YtabkdonplmlbcaaGreatDoor
set_option maxRecDepth 100000
open Go.RowKit
theorem getD_byte (s : ByteArray) (k : Nat) (h : k < s.size) : s.data.toList.getD k 0 = s[k] := by
 rw [List.getD_eq_getElem?_getD, List.getElem?_eq_getElem (by rw [← size_list]; exact h)]
 rfl
theorem RdSt.rule {lo g sb : Nat} {s : ByteArray} {X : Nat → Prop} {w : World} {rule : Int} {ps wh : List Int} {vp vw : Value} {Fp Fw : Nat → Prop} {p : PSt} {w1 : World} (h : RdSt lo g sb s X w rule ps wh vp vw Fp Fw p w1) (r : Int) (hne : sb ≠ g) (hls : lo ≤ sb) (hX : X sb) : RdSt lo g sb s X w r ps wh vp vw Fp Fw p (w1.setCell ⟨sb, 0, none⟩ (.int .i64 r)) :=
 ⟨(heap_setCell_other w1 ⟨sb, 0, none⟩ g _ (fun e => hne e.symm)).trans h.rd, h.st.rule r, h.ev.kp ((Kp.refl (fun b => b = sb) w1).sc (.inl rfl) _) (fun b e => by omega), h.kp.sc (.inl hX) _, h.pos⟩
def UnRel (lo g sb : Nat) (s : ByteArray) (X Fp : Nat → Prop) (w : World) (all : List Int) (pe : PSt) (wr : World) : Prop :=
 ∃ (f : Nat) (p : PSt) (ps : List Int) (v : Value) (F : Nat → Prop), RdSt lo g sb s X w 6 ps [] v (.slice none 0 0) F (fun _ => False) p wr ∧ (∀ b, F b → Fp b ∨ w.heap.size ≤ b) ∧ ps ++ (iMore s.data.toList f p).1 = all ∧ (iMore s.data.toList f p).2 = pe ∧ s.size - p.pos < f ∧ ps.length ≤ p.pos + 2
set_option maxHeartbeats 6400000 in
theorem unaryStep_any {lo : Nat} (g sb : Nat) (s : ByteArray) (p : PSt) (x : Int) (vp : Value) (Fp : Nat → Prop) (w : World) (h : PAt 35 w g s p) (hS : StB lo g sb 0 [x] [] vp (.slice none 0 0) Fp (fun _ => False) w) (hp : p.pos ≤ s.size) (hs : s.size ≤ 1000000) (hV : EnvP lo w) (hlo : lo ≤ g) (hls : lo ≤ sb) (hne : sb ≠ g) :
  Calls Tryz.prog 14 #[.pointer (some ⟨g, 0, none⟩), .pointer (some ⟨sb, 0, none⟩)] w fun e w' => e = .returned (.tuple #[]) ∧ ∃ vp' vw' Fp' Fw', StB lo g sb (iUn s.data.toList x p).1.rule (iUn s.data.toList x p).1.ps (iUn s.data.toList x p).1.wh vp' vw' Fp' Fw' w' ∧ PAt 35 w' g s (iUn s.data.toList x p).2 ∧ Kp (fun b => b = g ∨ b = sb ∨ Fp b) w w' := by
 have HB0 := Lib.hid (show RdSt lo g sb s (fun b => b = g ∨ b = sb ∨ Fp b) w 0 [x] [] vp (.slice none 0 0) Fp (fun _ => False) p w from ⟨h, hS, hV, Kp.refl _ _, hp⟩)
 have hg := bsz h.lt
 have hsb := bsz (blk_lt hS.box)
 clear h hS hV
 have h4 : FourT [] 6 7 8 11 := ⟨⟨by decide, by decide⟩, fun _ _ => rfl⟩
 go_enter Tryz.func14, Tryz.ntmps14
 go_wp2_with fail
 refine (take_any g s (⟨sMerge.toArray⟩ : ByteArray) p w HB0.out.rd hp (by omega) (by decide)).mono ?_
 rintro e w1 ⟨v, rfl, rfl, hP1, hg1⟩
 cases hT : pTake s.data.toList sMerge p
 case true =>
  rw [show (⟨sMerge.toArray⟩ : ByteArray).data.toList = sMerge from rfl, hT, if_pos rfl] at hP1
  have hpt := pTake_le hT (by rw [← size_list]; exact hp)
  obtain ⟨p1, hp1⟩ : ∃ p1, pAdv sMerge p = p1 := ⟨_, rfl⟩
  have HT := Lib.hid hT
  have HPP := Lib.hid hp1
  rw [hp1] at hP1
  have HB1 := Lib.hid (HB0.out.step hP1 hg1 (by rw [← hp1, size_list]; exact hpt) hne hlo (.inl rfl))
  clear hP1 hg1 hT hp1
  obtain ⟨b, hb⟩ : ∃ b, iNum s.data.toList p1 = b := ⟨_, rfl⟩
  have HBN := Lib.hid hb
  go_wp2_with fail
  refine (number_any g s p1 _ HB1.out.rd HB1.out.pos (by omega) HB1.out.ev hlo).mono ?_
  rw [hb]
  rintro e wnb ⟨v, rfl, rfl, hPn, hgn⟩
  have HB2 := Lib.hid (HB1.out.step hPn hgn (by have := iNum_pos s.data.toList p1 (by rw [← size_list]; exact HB1.out.pos); rw [hb, ← size_list] at this; exact this.1) hne hlo (.inl rfl))
  have nbb := iNum_bd s.data.toList p1
  rw [hb] at nbb
  have HGb := Lib.hid hgn
  clear hPn hgn hb
  obtain ⟨p3, hp3⟩ : ∃ p3, pMust s.data.toList sAnd b.2 = p3 := ⟨_, rfl⟩
  have HP3 := Lib.hid hp3
  go_wp2_with fail
  refine (must_any g s (⟨(sAnd).toArray⟩ : ByteArray) b.2 _ HB2.out.rd HB2.out.pos (by omega) (by decide)).mono ?_
  rw [show (⟨(sAnd).toArray⟩ : ByteArray).data.toList = sAnd from rfl, hp3]
  rintro e wmp3 ⟨v, rfl, rfl, hPn, hgn⟩
  have HB3 := Lib.hid (HB2.out.step hPn hgn (by have := pMust_pos s.data.toList sAnd b.2 (by rw [← size_list]; exact HB2.out.pos); rw [hp3, ← size_list] at this; exact this.2) hne hlo (.inl rfl))
  have HGp3 := Lib.hid hgn
  clear hPn hgn hp3
  obtain ⟨c, hc⟩ : ∃ c, iNum s.data.toList p3 = c := ⟨_, rfl⟩
  have HCN := Lib.hid hc
  go_wp2_with fail
  refine (number_any g s p3 _ HB3.out.rd HB3.out.pos (by omega) HB3.out.ev hlo).mono ?_
  rw [hc]
  rintro e wnc ⟨v, rfl, rfl, hPn, hgn⟩
  have HB4 := Lib.hid (HB3.out.step hPn hgn (by have := iNum_pos s.data.toList p3 (by rw [← size_list]; exact HB3.out.pos); rw [hc, ← size_list] at this; exact this.1) hne hlo (.inl rfl))
  have nbc := iNum_bd s.data.toList p3
  rw [hc] at nbc
  have HGc := Lib.hid hgn
  clear hPn hgn hc
  have HRS := Lib.hid (show iUn s.data.toList x p = (⟨3, [x], [b.1, c.1], []⟩, c.2) by simp only [iUn, HT.out, if_true, HPP.out, HBN.out, HP3.out, HCN.out])
  obtain ⟨c0, c1, c2, cf⟩ := StB.cells HB4.out.st.box
  have zk := bsz (blk_lt HB4.out.st.box)
  have zg := HB4.out.rd.lt
  go_wp2
  go_end0
  rw [HRS.out]
  exact ⟨rfl, _, _, _, _, HB4.out.st.put 3 [b.1, c.1] (by simp [maxLen]) (by intro n hn; simp only [List.mem_cons, List.not_mem_nil, or_false] at hn; rcases hn with rfl | rfl <;> exact ⟨by omega, by omega⟩) hls zg, HB4.out.rd.outs hne, ((HB4.out.kp.sc (.inl (.inr (.inl rfl))) _).sc (.inl (.inr (.inl rfl))) _).alloc _⟩
 rw [show (⟨sMerge.toArray⟩ : ByteArray).data.toList = sMerge from rfl, hT, if_neg (by simp)] at hP1
 have HB1 := Lib.hid (HB0.out.step hP1 hg1 hp hne hlo (.inl rfl))
 have HT := Lib.hid hT
 clear hP1 hg1 hT
 go_wp2_with fail
 refine (take_any g s (⟨sRem.toArray⟩ : ByteArray) p _ HB1.out.rd hp (by omega) (by decide)).mono ?_
 rintro e w2 ⟨v, rfl, rfl, hP2, hg2⟩
 cases hT2 : pTake s.data.toList sRem p
 case true =>
  rw [show (⟨sRem.toArray⟩ : ByteArray).data.toList = sRem from rfl, hT2, if_pos rfl] at hP2
  have hpt := pTake_le hT2 (by rw [← size_list]; exact hp)
  obtain ⟨p1, hp1⟩ : ∃ p1, pAdv sRem p = p1 := ⟨_, rfl⟩
  have HT2 := Lib.hid hT2
  have HPP := Lib.hid hp1
  rw [hp1] at hP2
  have HB2 := Lib.hid (HB1.out.step hP2 hg2 (by rw [← hp1, size_list]; exact hpt) hne hlo (.inl rfl))
  clear hP2 hg2 hT2 hp1
  obtain ⟨b, hb⟩ : ∃ b, iNum s.data.toList p1 = b := ⟨_, rfl⟩
  have HBN := Lib.hid hb
  go_wp2_with fail
  refine (number_any g s p1 _ HB2.out.rd HB2.out.pos (by omega) HB2.out.ev hlo).mono ?_
  rw [hb]
  rintro e wnb ⟨v, rfl, rfl, hPn, hgn⟩
  have HB4 := Lib.hid (HB2.out.step hPn hgn (by have := iNum_pos s.data.toList p1 (by rw [← size_list]; exact HB2.out.pos); rw [hb, ← size_list] at this; exact this.1) hne hlo (.inl rfl))
  have nbb := iNum_bd s.data.toList p1
  rw [hb] at nbb
  have HGb := Lib.hid hgn
  clear hPn hgn hb
  have HRS := Lib.hid (show iUn s.data.toList x p = (⟨5, [x], [b.1], []⟩, b.2) by simp only [iUn, HT.out, HT2.out, if_true, HPP.out, HBN.out, Bool.false_eq_true, if_false])
  obtain ⟨c0, c1, c2, cf⟩ := StB.cells HB4.out.st.box
  have zk := bsz (blk_lt HB4.out.st.box)
  have zg := HB4.out.rd.lt
  go_wp2
  go_end0
  rw [HRS.out]
  exact ⟨rfl, _, _, _, _, HB4.out.st.put 5 [b.1] (by simp [maxLen]) (by intro n hn; simp only [List.mem_cons, List.not_mem_nil, or_false] at hn; rcases hn with rfl; exact ⟨by omega, by omega⟩) hls zg, HB4.out.rd.outs hne, ((HB4.out.kp.sc (.inl (.inr (.inl rfl))) _).sc (.inl (.inr (.inl rfl))) _).alloc _⟩
 rw [show (⟨sRem.toArray⟩ : ByteArray).data.toList = sRem from rfl, hT2, if_neg (by simp)] at hP2
 have HB2 := Lib.hid (HB1.out.step hP2 hg2 hp hne hlo (.inl rfl))
 have HT2 := Lib.hid hT2
 clear hP2 hg2 hT2
 obtain ⟨p3, hp3⟩ : ∃ p3, pMust s.data.toList sRew p = p3 := ⟨_, rfl⟩
 have HP3 := Lib.hid hp3
 go_wp2_with fail
 refine (must_any g s (⟨(sRew).toArray⟩ : ByteArray) p _ HB2.out.rd HB2.out.pos (by omega) (by decide)).mono ?_
 rw [show (⟨(sRew).toArray⟩ : ByteArray).data.toList = sRew from rfl, hp3]
 rintro e wmp3 ⟨v, rfl, rfl, hPn, hgn⟩
 have HB3 := Lib.hid (HB2.out.step hPn hgn (by have := pMust_pos s.data.toList sRew p (by rw [← size_list]; exact HB2.out.pos); rw [hp3, ← size_list] at this; exact this.2) hne hlo (.inl rfl))
 have HGp3 := Lib.hid hgn
 clear hPn hgn hp3
 obtain ⟨c0, c1, c2, cf⟩ := StB.cells HB3.out.st.box
 have zk3 := bsz (blk_lt HB3.out.st.box)
 have HB4 := Lib.hid (HB3.out.rule 6 hne hls (.inr (.inl rfl)))
 obtain ⟨q1, k1, rfl, -⟩ := HB4.out.st.ps.form
 have HFp : ∀ b, Fp b → Fp b ∨ w.heap.size ≤ b := fun b e => .inl e
 obtain ⟨a, ha⟩ : ∃ a, iNum s.data.toList p3 = a := ⟨_, rfl⟩
 have HNa := Lib.hid ha
 have nba := iNum_bd s.data.toList p3
 have npa := iNum_pos s.data.toList p3 (by rw [← size_list]; exact HB4.out.pos)
 rw [ha] at nba npa
 rw [← size_list] at npa
 have zga := bsz HB4.out.rd.lt
 have zsa := bsz (blk_lt HB4.out.st.box)
 clear ha
 go_wp2_with fail
 refine wp_region_app 3 (RdG g s p3) (RdG g s a.2) 1 #[.int .i64 6, .slice q1 ([x]).length k1, .slice none 0 0, .slice none 0 0] 27 (.slice q1 ([x]).length k1) ([x]) 6 7 8 11 a.1 a.1 [] [some (.pointer (some ⟨sb, 0, none⟩)), some (.pointer (some ⟨sb, 0, none⟩)), some (.pointer (some ⟨sb, 0, none⟩)), some (.pointer (some ⟨sb, 1, none⟩)), some (.slice q1 ([x]).length k1), some (.pointer (some ⟨g, 0, none⟩)), none, none, none, some (.pointer (some ⟨sb, 0, none⟩)), some (.pointer (some ⟨sb, 1, none⟩)), none] (by kernel_rfl) (by kernel_rfl) (by simp) HB4.out.st.ps (fun b e => ⟨(HB4.out.st.fp b e).2.1, (HB4.out.st.fp b e).2.2.1, (HB4.out.st.fp b e).2.2.2.1⟩) HB4.out.st.box ⟨HB4.out.rd, rfl⟩ HB4.out.rd.lt hne ?_
 go_simp
 iterate 4
  refine flowV_st rfl rfl (by
   intro u' L w' hun hbe hD
   go_simp
   first | exact ⟨hD.other rfl hbe hun (by rfl) (by rfl), rfl⟩ | exact hD.other rfl hbe hun (by rfl) (by rfl)) ?_
  go_simp
 refine flowV_st rfl rfl (by
  intro u' L w' hun hbe hD
  have hbx := AiD.bx hD (by simp) hun (by kernel_rfl)
  obtain ⟨c0, c1, c2, cf⟩ := StB.cells hbx
  have zk := bsz (blk_lt hbx)
  clear hbx
  go_simp
  first | exact ⟨hD.other rfl hbe hun (by rfl) (by rfl), rfl⟩ | exact hD.other rfl hbe hun (by rfl) (by rfl)) ?_
 go_simp
 refine flowV_st rfl rfl (by
  intro u' L w' hun hbe hD
  go_simp
  first | exact ⟨hD.other rfl hbe hun (by rfl) (by rfl), rfl⟩ | exact hD.other rfl hbe hun (by rfl) (by rfl)) ?_
 go_simp
 refine flowV_ch rfl rfl (by
  intro u' hu' L w' hun hbe hD
  obtain ⟨F, ⟨hP, hFg⟩, hF, hcall⟩ := AiD.call hD (RdG.stab _ _ _) (RdG.stab _ _ _) h4 (by kernel_rfl) rfl hbe hun
  have hE := HB4.out.ev.kp hD.bw (fun b e => e.elim (fun e => by omega) (fun e => e.elim (fun e => by omega) (fun e => (HB4.out.st.fp b e).1)))
  go_simp
  refine (number_any g s p3 w' hP HB4.out.pos (by omega) hE hlo).mono ?_
  rw [HNa.out]
  rintro e w'' ⟨v, rfl, rfl, hP2, hg2⟩
  exact ⟨_, rfl, hcall w'' F ((Kp.of_gr hg2).mono (fun b e => by injection e with e; subst e; exact .inl hFg)) (fun b e => .inl e) (fun b e => Nat.lt_of_lt_of_le (hF b e).2 hg2.size) ⟨hP2, hFg⟩⟩) ?_
 intro x6
 go_simp
 refine flowV_ch rfl rfl (by
  intro u' hu' L w' hun hbe hD
  have d := after_behind hbe (p := 6) (by kernel_rfl)
  have e6 : u' 6 = x6 := (after_eq hu' (p := 6) (by kernel_rfl)).trans (by simp [upd])
  have hv := AiD.val hD h4 d
  have hst := AiD.build hD (RdG.stab _ _ _) (RdG.stab _ _ _) h4 (by kernel_rfl) rfl hbe hun
  obtain rfl : x6 = .int .i64 a.1 := e6.symm.trans hv
  first | (go_simp; done) | (go_simp; exact hst)) ?_
 intro x7
 go_simp
 refine flowV_ch rfl rfl (by
  intro u' hu' L w' hun hbe hD
  have e7 : u' 7 = x7 := (after_eq hu' (p := 7) (by kernel_rfl)).trans (by simp [upd])
  exact AiD.app hD (RdG.stab _ _ _) (RdG.stab _ _ _) ⟨by omega, by omega⟩ h4 (by kernel_rfl) rfl hbe hun _ _ _ rfl 8 elemIntE rfl e7.symm (by first | omega | (simp; done) | (simp; omega)) (by unfold maxLen; first | omega | (simp; done) | (simp; omega))) ?_
 intro x8
 go_simp
 iterate 2
  refine flowV_st rfl rfl (by
   intro u' L w' hun hbe hD
   go_simp
   first | exact ⟨hD.other rfl hbe hun (by rfl) (by rfl), rfl⟩ | exact hD.other rfl hbe hun (by rfl) (by rfl)) ?_
  go_simp
 refine flowV_ch rfl rfl (by
  intro u' hu' L w' hun hbe hD
  have e8 : u' 8 = x8 := (after_eq hu' (p := 8) (by kernel_rfl)).trans (by simp [upd])
  obtain ⟨hbx, ⟨p8, c8, h8⟩, hst⟩ := AiD.put hD (RdG.stab _ _ _) (RdG.stab _ _ _) h4 (by kernel_rfl) rfl hbe hun
  have hst := hst undef
  rw [h8] at hst
  obtain rfl : x8 = _ := e8.symm.trans h8
  try simp only [List.length_cons, List.length_nil] at hst ⊢
  obtain ⟨c0, c1, c2, cf⟩ := StB.cells hbx
  have zk := bsz (blk_lt hbx)
  clear hbx
  first | (go_simp; done) | (go_simp; exact hst)) ?_
 intro x11
 refine flowV_nil ?_
 intro L wna hL hD
 obtain ⟨hk1, FR, ⟨hP1, hFg⟩, hF, Fa, hrow, hbx, hF1⟩ := AiD.end (N := 12) hD h4 rfl (fun i hi => by simpa using hL i (by simpa using hi))
 rw [show upd (upd (upd (upd (fun _ => undef) 6 x6) 7 x7) 8 x8) 11 x11 8 = x8 by simp [upd]] at hrow hbx
 have hz1 := hk1.size
 have hzk := HB4.out.kp.size
 have HB5 := Lib.hid (show RdSt lo g sb s (fun b => b = g ∨ b = sb ∨ Fp b) w 6 ([x] ++ [a.1]) [] x8 (.slice none 0 0) Fa (fun _ => False) a.2 wna from
  ⟨hP1, ⟨by simpa using hbx, hrow, OwnRow.nil _ _ _ _ _, fun b e => ⟨(hF1 b e).1.elim (fun e => e.elim (fun e => by omega) (fun e => e.elim (fun e => by omega) (fun e => (HB4.out.st.fp b e).1))) (fun e => by omega), (hF1 b e).2.1, (hF1 b e).2.2.1, fun e' => (hF1 b e).2.2.2 (e' ▸ hFg), fun h => h⟩, fun b e => e.elim⟩,
   HB4.out.ev.kp hk1 (fun b e => e.elim (fun e => by omega) (fun e => e.elim (fun e => by omega) (fun e => (HB4.out.st.fp b e).1))), HB4.out.kp.trans hk1 (fun b e => e.elim (fun e => .inl (.inl e)) (fun e => e.elim (fun e => .inl (.inr (.inl e))) (fun e => (HFp b e).elim (fun e => .inl (.inr (.inr e))) .inr))), npa.1⟩)
 have HFa : ∀ b, Fa b → Fp b ∨ w.heap.size ≤ b := fun b e => (hF1 b e).1.elim (fun e' => e'.elim (fun e' => absurd (e' ▸ hFg) (hF1 b e).2.2.2) (fun e' => e'.elim (fun e' => absurd e' (hF1 b e).2.2.1) (fun e' => HFp b e'))) (fun e' => .inr (by omega))
 clear hL hD hk1 hP1 hFg hF hrow hbx hF1
 have HRS := Lib.hid (show iUn s.data.toList x p = (⟨6, x :: a.1 :: (iMore s.data.toList (s.size + 1) a.2).1, [], []⟩, (iMore s.data.toList (s.size + 1) a.2).2) by simp only [iUn, HT.out, HT2.out, HP3.out, HNa.out, Bool.false_eq_true, if_false, size_list])
 clear c0 c1 c2 cf
 go_wp2_with fail
 go_loopw [] (UnRel lo g sb s (fun b => b = g ∨ b = sb ∨ Fp b) Fp w (x :: a.1 :: (iMore s.data.toList (s.size + 1) a.2).1) (iMore s.data.toList (s.size + 1) a.2).2) (fun wr => s.size - posOf wr g)
 case atStart => exact ⟨s.size + 1, a.2, [x, a.1], _, _, HB5.out, HFa, rfl, rfl, by omega, by simp⟩
 case round =>
  obtain ⟨f, p', ps, v, F, hB, HFF, hal, hpe, hfu, hpl⟩ := hrel
  have HB := Lib.hid hB
  have HPO := hB.rd.posOf
  have hpb := hB.pos
  have wr2 : IntKind.i64.wrap ((p'.pos : Int) + 2) = (p'.pos : Int) + 2 := IntWalk.i64_in _ (by omega)
  obtain ⟨qv, cv, rfl, -⟩ := hB.st.ps.form
  obtain ⟨f', rfl⟩ : ∃ q, f = q + 1 := ⟨f - 1, by omega⟩
  obtain ⟨d0, d1, d2, df⟩ := hB.rd.cells
  have hgw := bsz hB.rd.lt
  have HAL := Lib.hid (And.intro hal hpe)
  have HAS0 := Lib.hid (fun w' (hw' : Below wr.heap.size wr w') => has_any g s (⟨#[44, 32]⟩ : ByteArray) p' w' (HB.out.rd.below hw') HB.out.pos (by unfold maxLen; omega))
  rw [show (⟨#[44, 32]⟩ : ByteArray).data.toList = sComma from rfl] at HAS0
  clear hB hal hpe
  cases hT : pTake s.data.toList sComma p'
  ·have HAS := HAS0
   rw [hT] at HAS
   have HNX := Lib.hid (show iMore s.data.toList (f' + 1) p' = ([], p') by rw [iMore, if_neg (by rw [moreC, hT]; simp)])
   clear hT HAS0
   go_wp2_with fail
   refine wp_region_flowC wr.heap.size [(⟨g, 0, none⟩, .string s), (⟨g, 1, none⟩, .int .i64 (p'.pos : Nat)), (⟨g, 2, none⟩, .bool p'.bad)] (by kernel_rfl) (by kernel_rfl) (by first | (intro _ hs; cases hs; done) | (simp only [List.forall_mem_cons]; go_simp)) fun C HC => ?_
   repeat (first | ((first | apply flow_free rfl | (apply flow_yes; (case hw => go_simp))); (intro L w' hun hrd hC; have ⟨hC, hb', hf'⟩ := flO HC hC; (try simp only [List.forall_mem_cons] at hf'); go_simp; first | exact ⟨flS HC hC, rfl⟩ | (rw [if_neg]; (exact ⟨flS HC hC, rfl⟩); omega) | first | (go_at_call 34; refine (HAS.out _ hb').mono ?_; rintro e w1 ⟨rfl, hb1⟩; exact ⟨rfl, flN HC hC (by first | (simp; done) | (simp; omega) | omega) hb1⟩) | (go_at_call 32; refine ((same_below (isDigit_any _ _))).mono ?_; rintro e w1 ⟨rfl, hb1⟩; exact ⟨rfl, flN HC hC (by first | (simp; done) | (simp; omega) | omega) hb1⟩)); go_simp) | (apply flow_noC HC; (case hw => (go_simp; try (intro hh; cases hh))); go_simp))
   refine flow_nil ?_
   intro L wz hL hz
   have ⟨_, hbz, hcz⟩ := flO HC hz
   try simp only [List.forall_mem_cons] at hcz
   have HBz := Lib.hid (HB.out.step (HB.out.rd.below hbz) (gr_below (gr_refl wr g) hbz) HB.out.pos hne hlo (.inl rfl))
   go_wp2
   go_end0
   refine ⟨rfl, ?_⟩
   rw [HRS.out]
   obtain ⟨e1, e2⟩ := HAL.out
   rw [HNX.out] at e1 e2
   rw [List.append_nil] at e1
   simp only
   rw [← e1, ← e2]
   first | exact ⟨_, _, F, fun _ => False, HBz.out.st, HBz.out.rd, HBz.out.kp⟩ | exact ⟨⟨_, _, F, fun _ => False, HBz.out.st⟩, HBz.out.rd, HBz.out.kp⟩
  ·have HAS := HAS0
   rw [hT] at HAS
   have HT3 := Lib.hid hT
   clear hT HAS0
   by_cases h2 : p'.pos + 2 < s.size
   ·have h2i : (p'.pos : Int) + 2 < s.size := by omega
    have HGD := Lib.hid (getD_byte s (p'.pos + 2) h2)
    have e2n : ((p'.pos : Int) + 2).toNat = p'.pos + 2 := by omega
    cases hdi : diC s[p'.pos + 2]
    ·have hdi2 : diC (s[((p'.pos : Int) + 2).toNat]'(by omega)) = false := by simp only [e2n]; exact hdi
     have HNX := Lib.hid (show iMore s.data.toList (f' + 1) p' = ([], p') by rw [iMore, if_neg (by rw [moreC, HGD.out, hdi]; simp)])
     go_wp2_with fail
     refine wp_region_flowC wr.heap.size [(⟨g, 0, none⟩, .string s), (⟨g, 1, none⟩, .int .i64 (p'.pos : Nat)), (⟨g, 2, none⟩, .bool p'.bad)] (by kernel_rfl) (by kernel_rfl) (by first | (intro _ hs; cases hs; done) | (simp only [List.forall_mem_cons]; go_simp)) fun C HC => ?_
     repeat (first | ((first | apply flow_free rfl | (apply flow_yes; (case hw => go_simp))); (intro L w' hun hrd hC; have ⟨hC, hb', hf'⟩ := flO HC hC; (try simp only [List.forall_mem_cons] at hf'); go_simp; first | exact ⟨flS HC hC, rfl⟩ | (rw [if_neg]; (exact ⟨flS HC hC, rfl⟩); omega) | first | (go_at_call 34; refine (HAS.out _ hb').mono ?_; rintro e w1 ⟨rfl, hb1⟩; exact ⟨rfl, flN HC hC (by first | (simp; done) | (simp; omega) | omega) hb1⟩) | (go_at_call 32; refine ((same_below (isDigit_any _ _))).mono ?_; rintro e w1 ⟨rfl, hb1⟩; exact ⟨rfl, flN HC hC (by first | (simp; done) | (simp; omega) | omega) hb1⟩)); go_simp) | (apply flow_noC HC; (case hw => (go_simp; try (intro hh; cases hh))); go_simp))
     refine flow_nil ?_
     intro L wz hL hz
     have ⟨_, hbz, hcz⟩ := flO HC hz
     try simp only [List.forall_mem_cons] at hcz
     have HBz := Lib.hid (HB.out.step (HB.out.rd.below hbz) (gr_below (gr_refl wr g) hbz) HB.out.pos hne hlo (.inl rfl))
     go_wp2
     go_end0
     refine ⟨rfl, ?_⟩
     rw [HRS.out]
     obtain ⟨e1, e2⟩ := HAL.out
     rw [HNX.out] at e1 e2
     rw [List.append_nil] at e1
     simp only
     rw [← e1, ← e2]
     first | exact ⟨_, _, F, fun _ => False, HBz.out.st, HBz.out.rd, HBz.out.kp⟩ | exact ⟨⟨_, _, F, fun _ => False, HBz.out.st⟩, HBz.out.rd, HBz.out.kp⟩
    ·have hdi2 : diC (s[((p'.pos : Int) + 2).toNat]'(by omega)) = true := by simp only [e2n]; exact hdi
     have HNX := Lib.hid (show iMore s.data.toList (f' + 1) p' = ((iNum s.data.toList (pMust s.data.toList sComma p')).1 :: (iMore s.data.toList f' (iNum s.data.toList (pMust s.data.toList sComma p')).2).1, (iMore s.data.toList f' (iNum s.data.toList (pMust s.data.toList sComma p')).2).2) by rw [iMore, if_pos (by rw [moreC, HGD.out, hdi, HT3.out, ← size_list]; simpa using h2)])
     go_wp2_with fail
     refine wp_region_flowC wr.heap.size [(⟨g, 0, none⟩, .string s), (⟨g, 1, none⟩, .int .i64 (p'.pos : Nat)), (⟨g, 2, none⟩, .bool p'.bad)] (by kernel_rfl) (by kernel_rfl) (by first | (intro _ hs; cases hs; done) | (simp only [List.forall_mem_cons]; go_simp)) fun C HC => ?_
     repeat (first | ((first | apply flow_free rfl | (apply flow_yes; (case hw => go_simp))); (intro L w' hun hrd hC; have ⟨hC, hb', hf'⟩ := flO HC hC; (try simp only [List.forall_mem_cons] at hf'); go_simp; first | exact ⟨flS HC hC, rfl⟩ | (rw [if_neg]; (exact ⟨flS HC hC, rfl⟩); omega) | first | (go_at_call 34; refine (HAS.out _ hb').mono ?_; rintro e w1 ⟨rfl, hb1⟩; exact ⟨rfl, flN HC hC (by first | (simp; done) | (simp; omega) | omega) hb1⟩) | (go_at_call 32; refine ((same_below (isDigit_any _ _))).mono ?_; rintro e w1 ⟨rfl, hb1⟩; exact ⟨rfl, flN HC hC (by first | (simp; done) | (simp; omega) | omega) hb1⟩)); go_simp) | (apply flow_noC HC; (case hw => (go_simp; try (intro hh; cases hh))); go_simp))
     refine flow_nil ?_
     intro L wz hL hz
     have ⟨_, hbz, hcz⟩ := flO HC hz
     try simp only [List.forall_mem_cons] at hcz
     have HBz := Lib.hid (HB.out.step (HB.out.rd.below hbz) (gr_below (gr_refl wr g) hbz) HB.out.pos hne hlo (.inl rfl))
     clear HAS
     obtain ⟨p4, hp4⟩ : ∃ p4, pMust s.data.toList sComma p' = p4 := ⟨_, rfl⟩
     have HP4 := Lib.hid hp4
     go_wp2_with fail
     refine (must_any g s (⟨(sComma).toArray⟩ : ByteArray) p' _ HBz.out.rd HBz.out.pos (by omega) (by decide)).mono ?_
     rw [show (⟨(sComma).toArray⟩ : ByteArray).data.toList = sComma from rfl, hp4]
     rintro e wmp4 ⟨v, rfl, rfl, hPn, hgn⟩
     have HBm := Lib.hid (HBz.out.step hPn hgn (by have := pMust_pos s.data.toList sComma p' (by rw [← size_list]; exact HBz.out.pos); rw [hp4, ← size_list] at this; exact this.2) hne hlo (.inl rfl))
     have HGp4 := Lib.hid hgn
     clear hPn hgn hp4
     have hp4 : p4.pos = p'.pos + 2 := by rw [← HP4.out, pMust, HT3.out]; rfl
     obtain ⟨b, hb⟩ : ∃ b, iNum s.data.toList p4 = b := ⟨_, rfl⟩
     have HNb := Lib.hid hb
     have nbb := iNum_bd s.data.toList p4
     have npb := iNum_pos s.data.toList p4 (by rw [← size_list]; exact HBm.out.pos)
     rw [hb] at nbb npb
     rw [← size_list] at npb
     have zgb := bsz HBm.out.rd.lt
     have zsb := bsz (blk_lt HBm.out.st.box)
     clear hb
     go_wp2_with fail
     refine wp_region_app 3 (RdG g s p4) (RdG g s b.2) 1 #[.int .i64 6, .slice qv (ps).length cv, .slice none 0 0, .slice none 0 0] 27 (.slice qv (ps).length cv) (ps) 6 7 8 11 b.1 b.1 [] [some (.pointer (some ⟨sb, 0, none⟩)), some (.pointer (some ⟨sb, 0, none⟩)), some (.pointer (some ⟨sb, 0, none⟩)), some (.pointer (some ⟨sb, 1, none⟩)), some (.slice qv (ps).length cv), some (.pointer (some ⟨g, 0, none⟩)), none, none, none, some (.pointer (some ⟨sb, 0, none⟩)), some (.pointer (some ⟨sb, 1, none⟩)), none] (by kernel_rfl) (by kernel_rfl) (by simp) HBm.out.st.ps (fun b e => ⟨(HBm.out.st.fp b e).2.1, (HBm.out.st.fp b e).2.2.1, (HBm.out.st.fp b e).2.2.2.1⟩) HBm.out.st.box ⟨HBm.out.rd, rfl⟩ HBm.out.rd.lt hne ?_
     go_simp
     iterate 4
      refine flowV_st rfl rfl (by
       intro u' L w' hun hbe hD
       go_simp
       first | exact ⟨hD.other rfl hbe hun (by rfl) (by rfl), rfl⟩ | exact hD.other rfl hbe hun (by rfl) (by rfl)) ?_
      go_simp
     refine flowV_st rfl rfl (by
      intro u' L w' hun hbe hD
      have hbx := AiD.bx hD (by simp) hun (by kernel_rfl)
      obtain ⟨c0, c1, c2, cf⟩ := StB.cells hbx
      have zk := bsz (blk_lt hbx)
      clear hbx
      go_simp
      first | exact ⟨hD.other rfl hbe hun (by rfl) (by rfl), rfl⟩ | exact hD.other rfl hbe hun (by rfl) (by rfl)) ?_
     go_simp
     refine flowV_st rfl rfl (by
      intro u' L w' hun hbe hD
      go_simp
      first | exact ⟨hD.other rfl hbe hun (by rfl) (by rfl), rfl⟩ | exact hD.other rfl hbe hun (by rfl) (by rfl)) ?_
     go_simp
     refine flowV_ch rfl rfl (by
      intro u' hu' L w' hun hbe hD
      obtain ⟨F, ⟨hP, hFg⟩, hF, hcall⟩ := AiD.call hD (RdG.stab _ _ _) (RdG.stab _ _ _) h4 (by kernel_rfl) rfl hbe hun
      have hE := HBm.out.ev.kp hD.bw (fun b e => e.elim (fun e => by omega) (fun e => e.elim (fun e => by omega) (fun e => (HBm.out.st.fp b e).1)))
      go_simp
      refine (number_any g s p4 w' hP HBm.out.pos (by omega) hE hlo).mono ?_
      rw [HNb.out]
      rintro e w'' ⟨v, rfl, rfl, hP2, hg2⟩
      exact ⟨_, rfl, hcall w'' F ((Kp.of_gr hg2).mono (fun b e => by injection e with e; subst e; exact .inl hFg)) (fun b e => .inl e) (fun b e => Nat.lt_of_lt_of_le (hF b e).2 hg2.size) ⟨hP2, hFg⟩⟩) ?_
     intro x6
     go_simp
     refine flowV_ch rfl rfl (by
      intro u' hu' L w' hun hbe hD
      have d := after_behind hbe (p := 6) (by kernel_rfl)
      have e6 : u' 6 = x6 := (after_eq hu' (p := 6) (by kernel_rfl)).trans (by simp [upd])
      have hv := AiD.val hD h4 d
      have hst := AiD.build hD (RdG.stab _ _ _) (RdG.stab _ _ _) h4 (by kernel_rfl) rfl hbe hun
      obtain rfl : x6 = .int .i64 b.1 := e6.symm.trans hv
      first | (go_simp; done) | (go_simp; exact hst)) ?_
     intro x7
     go_simp
     refine flowV_ch rfl rfl (by
      intro u' hu' L w' hun hbe hD
      have e7 : u' 7 = x7 := (after_eq hu' (p := 7) (by kernel_rfl)).trans (by simp [upd])
      exact AiD.app hD (RdG.stab _ _ _) (RdG.stab _ _ _) ⟨by omega, by omega⟩ h4 (by kernel_rfl) rfl hbe hun _ _ _ rfl 8 elemIntE rfl e7.symm (by first | omega | (simp; done) | (simp; omega)) (by unfold maxLen; first | omega | (simp; done) | (simp; omega))) ?_
     intro x8
     go_simp
     iterate 2
      refine flowV_st rfl rfl (by
       intro u' L w' hun hbe hD
       go_simp
       first | exact ⟨hD.other rfl hbe hun (by rfl) (by rfl), rfl⟩ | exact hD.other rfl hbe hun (by rfl) (by rfl)) ?_
      go_simp
     refine flowV_ch rfl rfl (by
      intro u' hu' L w' hun hbe hD
      have e8 : u' 8 = x8 := (after_eq hu' (p := 8) (by kernel_rfl)).trans (by simp [upd])
      obtain ⟨hbx, ⟨p8, c8, h8⟩, hst⟩ := AiD.put hD (RdG.stab _ _ _) (RdG.stab _ _ _) h4 (by kernel_rfl) rfl hbe hun
      have hst := hst undef
      rw [h8] at hst
      obtain rfl : x8 = _ := e8.symm.trans h8
      try simp only [List.length_cons, List.length_nil] at hst ⊢
      obtain ⟨c0, c1, c2, cf⟩ := StB.cells hbx
      have zk := bsz (blk_lt hbx)
      clear hbx
      first | (go_simp; done) | (go_simp; exact hst)) ?_
     intro x11
     refine flowV_nil ?_
     intro L wnb hL hD
     obtain ⟨hk1, FR, ⟨hP1, hFg⟩, hF, Fb, hrow, hbx, hF1⟩ := AiD.end (N := 12) hD h4 rfl (fun i hi => by simpa using hL i (by simpa using hi))
     rw [show upd (upd (upd (upd (fun _ => undef) 6 x6) 7 x7) 8 x8) 11 x11 8 = x8 by simp [upd]] at hrow hbx
     have hz1 := hk1.size
     have hzk := HBm.out.kp.size
     have HBn := Lib.hid (show RdSt lo g sb s (fun b => b = g ∨ b = sb ∨ Fp b) w 6 (ps ++ [b.1]) [] x8 (.slice none 0 0) Fb (fun _ => False) b.2 wnb from
      ⟨hP1, ⟨by simpa using hbx, hrow, OwnRow.nil _ _ _ _ _, fun b e => ⟨(hF1 b e).1.elim (fun e => e.elim (fun e => by omega) (fun e => e.elim (fun e => by omega) (fun e => (HBm.out.st.fp b e).1))) (fun e => by omega), (hF1 b e).2.1, (hF1 b e).2.2.1, fun e' => (hF1 b e).2.2.2 (e' ▸ hFg), fun h => h⟩, fun b e => e.elim⟩,
       HBm.out.ev.kp hk1 (fun b e => e.elim (fun e => by omega) (fun e => e.elim (fun e => by omega) (fun e => (HBm.out.st.fp b e).1))), HBm.out.kp.trans hk1 (fun b e => e.elim (fun e => .inl (.inl e)) (fun e => e.elim (fun e => .inl (.inr (.inl e))) (fun e => (HFF b e).elim (fun e => .inl (.inr (.inr e))) .inr))), npb.1⟩)
     have HFb : ∀ b, Fb b → Fp b ∨ w.heap.size ≤ b := fun b e => (hF1 b e).1.elim (fun e' => e'.elim (fun e' => absurd (e' ▸ hFg) (hF1 b e).2.2.2) (fun e' => e'.elim (fun e' => absurd e' (hF1 b e).2.2.1) (fun e' => HFF b e'))) (fun e' => .inr (by omega))
     clear hL hD hk1 hP1 hFg hF hrow hbx hF1
     go_wp2
     obtain ⟨e1, e2⟩ := HAL.out
     rw [HNX.out, HP4.out, HNb.out] at e1 e2
     refine ⟨?_, by rw [HBn.out.rd.posOf, HPO]; omega⟩
     repeat apply Exists.intro
     exact ⟨⟨f', b.2, ps ++ [b.1], _, _, HBn.out, HFb, by rw [← e1]; simp, e2, by omega, by simp; omega⟩, rfl⟩
   ·have h2i : ¬ (p'.pos : Int) + 2 < s.size := by omega
    have HNX := Lib.hid (show iMore s.data.toList (f' + 1) p' = ([], p') by rw [iMore, if_neg (by rw [moreC, ← size_list, show decide (p'.pos + 2 < s.size) = false by simpa using h2]; simp)])
    go_wp2_with fail
    refine wp_region_flowC wr.heap.size [(⟨g, 0, none⟩, .string s), (⟨g, 1, none⟩, .int .i64 (p'.pos : Nat)), (⟨g, 2, none⟩, .bool p'.bad)] (by kernel_rfl) (by kernel_rfl) (by first | (intro _ hs; cases hs; done) | (simp only [List.forall_mem_cons]; go_simp)) fun C HC => ?_
    repeat (first | ((first | apply flow_free rfl | (apply flow_yes; (case hw => go_simp))); (intro L w' hun hrd hC; have ⟨hC, hb', hf'⟩ := flO HC hC; (try simp only [List.forall_mem_cons] at hf'); go_simp; first | exact ⟨flS HC hC, rfl⟩ | (rw [if_neg]; (exact ⟨flS HC hC, rfl⟩); omega) | first | (go_at_call 34; refine (HAS.out _ hb').mono ?_; rintro e w1 ⟨rfl, hb1⟩; exact ⟨rfl, flN HC hC (by first | (simp; done) | (simp; omega) | omega) hb1⟩) | (go_at_call 32; refine ((same_below (isDigit_any _ _))).mono ?_; rintro e w1 ⟨rfl, hb1⟩; exact ⟨rfl, flN HC hC (by first | (simp; done) | (simp; omega) | omega) hb1⟩)); go_simp) | (apply flow_noC HC; (case hw => (go_simp; try (intro hh; cases hh))); go_simp))
    refine flow_nil ?_
    intro L wz hL hz
    have ⟨_, hbz, hcz⟩ := flO HC hz
    try simp only [List.forall_mem_cons] at hcz
    have HBz := Lib.hid (HB.out.step (HB.out.rd.below hbz) (gr_below (gr_refl wr g) hbz) HB.out.pos hne hlo (.inl rfl))
    go_wp2
    go_end0
    refine ⟨rfl, ?_⟩
    rw [HRS.out]
    obtain ⟨e1, e2⟩ := HAL.out
    rw [HNX.out] at e1 e2
    rw [List.append_nil] at e1
    simp only
    rw [← e1, ← e2]
    first | exact ⟨_, _, F, fun _ => False, HBz.out.st, HBz.out.rd, HBz.out.kp⟩ | exact ⟨⟨_, _, F, fun _ => False, HBz.out.st⟩, HBz.out.rd, HBz.out.kp⟩
def LitOwn (eT : TypeId) (n : Nat) (S : Nat → Prop) (w : World) (l : Lit3) (cs : List Value) : Prop := ∃ vn va, cs = [.bool l.pos, vn, va] ∧ TmOwn eT n S w l.a [vn, va]
theorem LitOwn.mono {eT : TypeId} {n m : Nat} {S S' : Nat → Prop} {w w' : World} {l : Lit3} {cs : List Value} (hm : n ≤ m) (hs : SameOn S w w') (hS : ∀ b, S b → S' b) (h : LitOwn eT n S w l cs) : LitOwn eT m S' w' l cs := by
 obtain ⟨vn, va, h1, h2⟩ := h
 exact ⟨vn, va, h1, TmOwn.mono n m l.a _ hm hs hS h2⟩
theorem LitOwn.at_ {eT : TypeId} {n : Nat} {S : Nat → Prop} {w : World} {l : Lit3} {cs : List Value} (h : LitOwn eT n S w l cs) : LitAt S n w l cs := by
 obtain ⟨vn, va, h1, h2⟩ := h
 exact ⟨vn, va, h1, TmOwn.at_ n l.a _ h2⟩
def ClsOwn (eT eL : TypeId) (n : Nat) (S : Nat → Prop) (w : World) (c : List Lit3) (v : Value) : Prop := OwnRow S w eL 3 (fun T l cs => LitOwn eT n T w l cs) v c
theorem ClsOwn.mono {eT eL : TypeId} {n m : Nat} {S S' : Nat → Prop} {w w' : World} {c : List Lit3} {v : Value} (hm : n ≤ m) (hs : SameOn S w w') (hS : ∀ b, S b → S' b) (h : ClsOwn eT eL n S w c v) : ClsOwn eT eL m S' w' c v :=
 OwnRow.mono h hs hS (fun _ _ _ _ hT hx => LitOwn.mono hm (fun b hb hlt => hs b (hT b hb) hlt) (fun _ h => h) hx)
theorem ClsOwn.at_ {eT eL : TypeId} {n : Nat} {S : Nat → Prop} {w : World} {c : List Lit3} {v : Value} (h : ClsOwn eT eL n S w c v) : ClsAt S n w c v :=
 OwnRow.listAt (by omega) h (fun T x cs _ hT hx => LitAt.mono (SameOn.refl _ _) hT (Nat.le_refl _) (LitOwn.at_ hx))
theorem ClsOwn.later {eT eL : TypeId} {n : Nat} {S : Nat → Prop} {w w' : World} {c : List Lit3} {v : Value} (hb : Below w.heap.size w w') (h : ClsOwn eT eL n S w c v) : ClsOwn eT eL n S w' c v := ClsOwn.mono (Nat.le_refl _) (SameOn.below hb) (fun _ h => h) h
theorem ClsOwn.nil (eT eL : TypeId) (n : Nat) (S : Nat → Prop) (w : World) : ClsOwn eT eL n S w [] (.slice none 0 0) := OwnRow.nil _ _ _ _ _
def markP (k : Nat) : Bool := (k : Int) % 3 == 0
def Lit3.Mkd (l : Lit3) (k k' : Nat) : Prop := l.pos = markP k ∧ l.a.n = markB (k + 1) ∧ Tm.Mkds l.a.us (k + 2) k'
def Cls.Mkds : List Lit3 → Nat → Nat → Prop
 | [], k, k' => k = k'
 | a :: us, k, k' => ∃ j, a.Mkd k j ∧ Cls.Mkds us j k'
def Lit3.ct (l : Lit3) : Nat := 2 + Tm.cts l.a.us
def Cls.cts : List Lit3 → Nat | [] => 0 | a :: us => a.ct + Cls.cts us
theorem Lit3.Mkd.le {a : Lit3} {k k' : Nat} (h : a.Mkd k k') : k < k' := by have := Tm.Mkds.le _ _ _ h.2.2; omega
theorem Cls.Mkds.le : ∀ (us : List Lit3) (k k' : Nat), Cls.Mkds us k k' → k ≤ k'
 | [], k, k', h => by rw [Cls.Mkds] at h; omega
 | a :: us, k, k', h => by
  rw [Cls.Mkds] at h
  obtain ⟨j, h1, h2⟩ := h
  have := h1.le
  have := Cls.Mkds.le us j k' h2
  omega
theorem Cls.Mkds.snoc : ∀ (us : List Lit3) (a : Lit3) (k j k' : Nat), Cls.Mkds us k j → a.Mkd j k' → Cls.Mkds (us ++ [a]) k k'
 | [], a, k, j, k', h, ha => by rw [Cls.Mkds] at h; subst h; exact ⟨k', ha, rfl⟩
 | b :: us, a, k, j, k', h, ha => by
  rw [Cls.Mkds] at h
  obtain ⟨i, h1, h2⟩ := h
  exact ⟨i, h1, Cls.Mkds.snoc us a i j k' h2 ha⟩
theorem Cls.Mkds.drop {us : List Lit3} {i k k' : Nat} (h : Cls.Mkds (us.drop i) k k') (hi : i < us.length) : ∃ j, us[i].Mkd k j ∧ Cls.Mkds (us.drop (i + 1)) j k' := by
 rw [List.drop_eq_getElem_cons hi, Cls.Mkds] at h; exact h
theorem Cls.cts_drop {us : List Lit3} {i : Nat} (hi : i < us.length) : Cls.cts (us.drop i) = us[i].ct + Cls.cts (us.drop (i + 1)) := by rw [List.drop_eq_getElem_cons hi, Cls.cts]
theorem form_neg {f : Fm} (h : f.form = true) (ho : f.op = 4) : ∃ g, f = opF 4 [g] ∧ g.form = true := by
 cases form_cases h with
 | neg g hg => exact ⟨g, rfl, hg⟩
 | tru => exact absurd ho (by simp [opF, Fm.op])
 | fal => exact absurd ho (by simp [opF, Fm.op])
 | atm a ha => exact absurd ho (by simp [atomOfF, Fm.op])
 | bin op g h hop hg hh => exact absurd ho (by show ¬ op = 4; omega)
 | qua op v g hop hv hg => exact absurd ho (by show ¬ op = 4; omega)
theorem form_or {f : Fm} (h : f.form = true) (ho : f.op = 6) : ∃ g g', f = opF 6 [g, g'] ∧ g.form = true ∧ g'.form = true := by
 cases form_cases h with
 | neg g hg => exact absurd ho (by show ¬ (4 : Int) = 6; omega)
 | tru => exact absurd ho (by simp [opF, Fm.op])
 | fal => exact absurd ho (by simp [opF, Fm.op])
 | atm a ha => exact absurd ho (by simp [atomOfF, Fm.op])
 | bin op g g' hop hg hh =>
  obtain rfl : op = 6 := ho
  exact ⟨g, g', rfl, hg, hh⟩
 | qua op v g hop hv hg => exact absurd ho (by show ¬ op = 6; omega)
theorem FmOwn.split {eT eF : TypeId} {n : Nat} {S : Nat → Prop} {w : World} {t : Fm} {v0 v1 v2 v3 v4 : Value} (h : FmOwn eT eF (n + 1) S w t [v0, v1, v2, v3, v4]) :
  ∃ Sa Sp : Nat → Prop, TmOwn eT n Sa w t.a [v1, v2] ∧ OwnRow Sp w eF 5 (fun T f c => FmOwn eT eF n T w f c) v4 t.ps ∧ (∀ b, Sa b → S b ∧ ¬ Sp b) ∧ ∀ b, Sp b → S b := by
 obtain ⟨op, a, x, ps⟩ := t
 obtain ⟨vn, va, vp, Sa, Sp, h1, h2, h3, h4, h5, h6, h7⟩ := h
 simp only [List.cons.injEq, and_true] at h1
 obtain ⟨-, rfl, rfl, -, rfl⟩ := h1
 exact ⟨Sa, Sp, h4, h5, h6, h7⟩
set_option maxHeartbeats 1600000 in
theorem literalOf_any {m : Nat} {S : Nat → Prop} (f : Fm) (v0 v1 v2 v3 v4 : Value) (w : World) (h : FmOwn 64 67 (m + 2) S w f [v0, v1, v2, v3, v4]) (hf : f.form = true) :
  Calls Tryz.prog 71 #[.agg #[v0, v1, v2, v3, v4]] w fun e w' => ∃ u0 u1 S', e = .returned (.tuple #[.agg #[.bool (litOf f).1.pos, u0, u1], .bool (litOf f).2]) ∧ TmOwn 64 (m + 1) S' w' (litOf f).1.a [u0, u1] ∧ (∀ b, S' b → S b) ∧ Below w.heap.size w w' := by
 by_cases h4 : f.op = 4
 ·obtain ⟨g, rfl, hg⟩ := form_neg hf h4
  obtain ⟨p, c, q, d, rfl, rfl, rfl, rfl, rfl, -⟩ := h.form
  obtain ⟨Sa, Sp, -, hrow, -, hSp⟩ := h.split
  obtain ⟨b, cap, cs, Si, cur, hv, -, hh, hcl, -, hcs, hR, hSi, -⟩ := OwnRow.elem hrow (i := 0) (x := g) rfl
  simp only [Value.slice.injEq] at hv
  obtain ⟨rfl, -, rfl⟩ := hv
  have hlen : ∃ x0 x1 x2 x3 x4, cs = [x0, x1, x2, x3, x4] := by
   match cs, hcl with
   | [x0, x1, x2, x3, x4], _ => exact ⟨x0, x1, x2, x3, x4, rfl⟩
  obtain ⟨x0, x1, x2, x3, x4, rfl⟩ := hlen
  obtain ⟨pg, cg, qg, dg, rfl, rfl, rfl, rfl, rfl, -⟩ := FmOwn.form hR
  obtain ⟨Sb, Sq, hT, -, hSb, -⟩ := FmOwn.split hR
  have HT := Lib.hid hT
  have HL := Lib.hid (show litOf (opF 4 [g]) = (⟨false, g.a⟩, g.op == 3) by simp [litOf, opF, Fm.op, Fm.ps])
  have hsub : ∀ b', Sb b' → S b' := fun b' hb => hSp b' (hSi b' (hSb b' hb).1).1
  have cell : ∀ j, w.cell? ⟨b, j, none⟩ = cur[j]? := fun j => cell_of_row w b j cur _ (0, 0) hh
  have y0 : w.cell? ⟨b, 0, none⟩ = some (.int .i64 g.op) := (cell 0).trans (hcs 0 (by omega))
  have y1 : w.cell? ⟨b, 1, none⟩ = some (.string g.a.n) := (cell 1).trans (hcs 1 (by omega))
  have y2 : w.cell? ⟨b, 2, none⟩ = some (.slice pg g.a.us.length cg) := (cell 2).trans (hcs 2 (by omega))
  have y3 : w.cell? ⟨b, 3, none⟩ = some (.string g.v) := (cell 3).trans (hcs 3 (by omega))
  have y4 : w.cell? ⟨b, 4, none⟩ = some (.slice qg g.ps.length dg) := (cell 4).trans (hcs 4 (by omega))
  have zb := bsz (blk_lt hh)
  have hop : (opF 4 [g]).op = 4 := rfl
  clear h hrow hh hcs hR hT cell hf hg h4
  show Calls Tryz.prog 71 #[.agg #[.int .i64 4, .string ⟨#[]⟩, .slice p 0 c, .string ⟨#[]⟩, .slice (some ⟨b, 0, none⟩) 1 d]] w _
  go_enter Tryz.func71, Tryz.ntmps71
  go_wp2
  go_region
  go_wp2
  rw [HL.out]
  refine bodyPost_ret (v := .tuple #[.agg #[.bool false, .string g.a.n, .slice pg g.a.us.length cg], .bool (g.op == 3)]) (by simp only [results, Tryz.results71]; go_simp) rfl ⟨_, _, Sb, rfl, ?_, hsub, by exact bel⟩
  exact TmOwn.mono m (m + 1) g.a _ (by omega) (SameOn.below (by exact bel)) (fun _ h => h) HT.out
 ·obtain ⟨p, c, q, d, rfl, rfl, rfl, rfl, rfl, -⟩ := h.form
  obtain ⟨Sa, Sp, hT, -, hSa, -⟩ := h.split
  have HT := Lib.hid hT
  have HL := Lib.hid (show litOf f = (⟨true, f.a⟩, f.op == 3) by rw [litOf, if_neg h4])
  have hop : (f.op == 4) = false := by simpa using h4
  clear h hT hf
  go_enter Tryz.func71, Tryz.ntmps71
  go_wp2
  go_region
  go_wp2
  rw [HL.out]
  refine bodyPost_ret (v := .tuple #[.agg #[.bool true, .string f.a.n, .slice p f.a.us.length c], .bool (f.op == 3)]) (by simp only [results, Tryz.results71]; go_simp) rfl ⟨_, _, Sa, rfl, ?_, fun b hb => (hSa b hb).1, by exact bel⟩
  exact TmOwn.below (by exact bel) HT.out
end Go.Proofs.YtabkdonplmlbcaaGreatDoor
