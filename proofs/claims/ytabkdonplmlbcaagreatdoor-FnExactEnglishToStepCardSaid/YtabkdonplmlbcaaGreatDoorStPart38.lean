import Derived.Test.YtabkdonplmlbcaaGreatDoorStPart21
namespace Go.Proofs.YtabkdonplmlbcaaGreatDoor
set_option maxRecDepth 100000
open Go.RowKit
theorem cellB2 {n : Nat} {w w' : World} {a : Addr} {v : Value} (hb : Below n w w') (ha : a.block < n) (h : w.cell? a = some v) : w'.cell? a = some v := (World.cell?_of_block (hb.block _ ha)).trans h
def GotZ (T : TypeId) (f : Nat) (r : Option (Tm × Nat)) (lo : Nat) (w' : World) (z : Int) (s : ByteArray) (p : Option Addr) (k c : Nat) : Prop :=
 match r with
  | none => z = -1
  | some (t, j) => z = (j : Nat) ∧ TmOwn T f (fun b => lo ≤ b ∧ b < w'.heap.size) w' t [.string s, .slice p k c]
structure RT (T TP : TypeId) (F : Nat) (r : Option (Tm × Nat)) (g k : Nat) (s : ByteArray) (w : World) (bx : Nat) (z : Int) (s0 : ByteArray) (p0 : Option Addr) (k0 c0 : Nat) (W : World) : Prop where
 at_ : PAt TP W g s ⟨k, false⟩
 gr : w.grownBy W (some g)
 res : W.heap[w.heap.size]? = some (.cells #[.string ⟨#[]⟩, .slice none 0 0] T (0, 0))
 box : W.heap[bx]? = some (.cells #[.string s0, .slice p0 k0 c0] T (0, 0))
 got : GotZ T F r (w.heap.size + 1) W z s0 p0 k0 c0
 lt : g < w.heap.size ∧ w.heap.size < bx ∧ bx < W.heap.size
theorem GotZ.mono {T : TypeId} {f : Nat} {r : Option (Tm × Nat)} {lo lo' : Nat} {w w' : World} {z : Int} {s : ByteArray} {p : Option Addr} {k c : Nat} (h : GotZ T f r lo w z s p k c) (hl : lo' ≤ lo) (hz : w.heap.size ≤ w'.heap.size) (hs : ∀ b, lo ≤ b → b < w.heap.size → w'.heap[b]? = w.heap[b]?) : GotZ T f r lo' w' z s p k c := by
 unfold GotZ at h ⊢
 split at h
 ·exact h
 ·exact ⟨h.1, TmOwn.mono f f _ _ (Nat.le_refl _) (fun b hb _ => hs b hb.1 hb.2) (fun b hb => ⟨by omega, by omega⟩) h.2⟩
theorem RT.first {T TP : TypeId} {F : Nat} {r : Option (Tm × Nat)} {g k : Nat} {s : ByteArray} {w W w1 : World} {z : Int} {s0 : ByteArray} {p0 : Option Addr} {k0 c0 : Nat} (hg : g < w.heap.size) (hsW : W.heap.size = w.heap.size + 1) (hP : PAt TP W g s ⟨k, false⟩) (hG : w.grownBy W (some g)) (hR : W.heap[w.heap.size]? = some (.cells #[.string ⟨#[]⟩, .slice none 0 0] T (0, 0)))
  (hb : Below (W.alloc (.cells #[.string ⟨#[]⟩, .slice none 0 0] T)).drew.heap.size (W.alloc (.cells #[.string ⟨#[]⟩, .slice none 0 0] T)).drew w1) (hgot : GotZ T F r (W.alloc (.cells #[.string ⟨#[]⟩, .slice none 0 0] T)).drew.heap.size w1 z s0 p0 k0 c0) :
  RT T TP F r g k s w (w.heap.size + 1) z s0 p0 k0 c0 ((w1.setCell ⟨w.heap.size + 1, 0, none⟩ (.string s0)).setCell ⟨w.heap.size + 1, 1, none⟩ (.slice p0 k0 c0)) := by
 have hz := hb.size
 simp at hz
 have hk : ∀ b, b < w1.heap.size → b ≠ w.heap.size + 1 → ((w1.setCell ⟨w.heap.size + 1, 0, none⟩ (.string s0)).setCell ⟨w.heap.size + 1, 1, none⟩ (.slice p0 k0 c0)).heap[b]? = w1.heap[b]? := fun b hb hne => by
  repeat rw [heap_setCell_other _ _ _ _ (fun e => hne e)]
 have hw : ∀ b, b < W.heap.size → w1.heap[b]? = W.heap[b]? := fun b hlt => (hb.block b (by simp; omega)).trans (hao W _ _ hlt)
 have hbx : w1.heap[w.heap.size + 1]? = some (.cells #[.string ⟨#[]⟩, .slice none 0 0] T (0, 0)) := (hb.block _ (by simp; omega)).trans (by have := heap_alloc_new W (.cells #[.string ⟨#[]⟩, .slice none 0 0] T); rw [hsW] at this; exact this)
 refine ⟨(hk g (by omega) (by omega)).trans ((hw g (by omega)).trans hP), ?_, (hk _ (by omega) (by omega)).trans ((hw _ (by omega)).trans hR), ?_, ?_, hg, by omega, by simp; omega⟩
 ·have h1 : W.grownBy w1 (some g) := ⟨hb.os, hb.tape, hb.output, by omega, fun b hlt _ => hw b hlt⟩
  exact gr_sc (gr_sc (gr_trans hG h1) (.inr (by simp)) _) (.inr (by simp)) _
 ·have h1 := heap_setCell_same w1 (w.heap.size + 1) 0 _ T (.string s0) hbx
  have h2 := heap_setCell_same _ (w.heap.size + 1) 1 _ T (.slice p0 k0 c0) h1
  simpa using h2
 ·exact hgot.mono (by simp; omega) (by simp) (fun b hb hlt => hk b hlt (by simp at hb; omega))
theorem RT.last {T TP : TypeId} {F : Nat} {r : Option (Tm × Nat)} {g k : Nat} {s : ByteArray} {w W w1 : World} {z : Int} {s0 : ByteArray} {p0 : Option Addr} {k0 c0 : Nat} (hg : g < w.heap.size) (hsW : W.heap.size = w.heap.size + 1) (hP : PAt TP W g s ⟨k, false⟩) (hG : w.grownBy W (some g)) (hR : W.heap[w.heap.size]? = some (.cells #[.string ⟨#[]⟩, .slice none 0 0] T (0, 0)))
  (hb : Below W.drew.heap.size W.drew w1) (hgot : GotZ T F r W.drew.heap.size w1 z s0 p0 k0 c0) :
  RT T TP F r g k s w w1.heap.size z s0 p0 k0 c0 (w1.alloc (.cells #[.string s0, .slice p0 k0 c0] T)) := by
 have hz : W.heap.size ≤ w1.heap.size := hb.size
 have hw : ∀ b, b < W.heap.size → (w1.alloc (.cells #[.string s0, .slice p0 k0 c0] T)).heap[b]? = W.heap[b]? := fun b hlt => (hao w1 _ _ (by omega)).trans (hb.block b hlt)
 refine ⟨(hw g (by omega)).trans hP, ?_, (hw _ (by omega)).trans hR, heap_alloc_new w1 _, ?_, hg, by omega, by simp⟩
 ·have h1 : W.grownBy w1 (some g) := ⟨hb.os, hb.tape, hb.output, hz, fun b hlt _ => hb.block b hlt⟩
  exact gr_al (gr_trans hG h1) _
 ·exact hgot.mono (by simp; omega) (by simp) (fun b _ hlt => hao w1 _ _ hlt)
theorem RT.no {T TP : TypeId} {F F' : Nat} {r : Option (Tm × Nat)} {g k : Nat} {s : ByteArray} {w W : World} {bx : Nat} {z : Int} {s0 : ByteArray} {p0 : Option Addr} {k0 c0 : Nat} (h : RT T TP F r g k s w bx z s0 p0 k0 c0 W) (a b : Value) :
  TermP T g w.heap.size s (F' + 1) tm0 ⟨k, true⟩ TP w (.agg #[.string ⟨#[]⟩, .slice none 0 0]) (((W.setCell ⟨g, 2, none⟩ (.bool true)).setCell ⟨w.heap.size, 0, none⟩ a).setCell ⟨w.heap.size, 1, none⟩ b) := by
 obtain ⟨l1, l2, l3⟩ := h.lt
 have hf := h.at_.fail
 refine ⟨_, _, rfl, ⟨_, rfl, Nat.zero_le _, OwnRow.nil _ _ _ _ _⟩, ?_, gr_sc (gr_sc (gr_sc h.gr (.inl rfl) _) (.inr (Nat.le_refl _)) _) (.inr (Nat.le_refl _)) _⟩
 exact ((heap_setCell_other _ ⟨w.heap.size, 1, none⟩ g b (by simp; omega)).trans (heap_setCell_other _ ⟨w.heap.size, 0, none⟩ g a (by simp; omega))).trans hf
theorem RT.yes {T TP : TypeId} {F j : Nat} {t : Tm} {g k : Nat} {s : ByteArray} {w W : World} {bx : Nat} {z : Int} {s0 : ByteArray} {p0 : Option Addr} {k0 c0 : Nat} (h : RT T TP F (some (t, j)) g k s w bx z s0 p0 k0 c0 W) (a b : Value) :
  TermP T g w.heap.size s F t ⟨j, false⟩ TP w (.agg #[.string s0, .slice p0 k0 c0]) (((W.setCell ⟨g, 1, none⟩ (.int .i64 (j : Nat))).setCell ⟨w.heap.size, 0, none⟩ a).setCell ⟨w.heap.size, 1, none⟩ b) := by
 obtain ⟨l1, l2, l3⟩ := h.lt
 have hf := h.at_.pos j
 have hO := h.got.2
 refine ⟨_, _, rfl, TmOwn.mono F F _ _ (Nat.le_refl _) (fun c hc _ => ?_) (fun c hc => ⟨by omega, by simpa using hc.2⟩) hO, ?_, gr_sc (gr_sc (gr_sc h.gr (.inl rfl) _) (.inr (Nat.le_refl _)) _) (.inr (Nat.le_refl _)) _⟩
 ·rw [heap_setCell_other _ ⟨w.heap.size, 1, none⟩ c b (by simp; omega), heap_setCell_other _ ⟨w.heap.size, 0, none⟩ c a (by simp; omega), heap_setCell_other _ ⟨g, 1, none⟩ c _ (by simp; omega)]
 ·exact ((heap_setCell_other _ ⟨w.heap.size, 1, none⟩ g b (by simp; omega)).trans (heap_setCell_other _ ⟨w.heap.size, 0, none⟩ g a (by simp; omega))).trans hf
set_option maxHeartbeats 3200000 in
theorem refTerm_any (g : Nat) (s : ByteArray) (p : PSt) (w : World) (h : PAt 51 w g s p) (hp : p.pos ≤ s.size) (hs : s.size ≤ 1000000) :
  Calls Tryz.prog 124 #[.pointer (some ⟨g, 0, none⟩)] w fun e w' => ∃ x, e = .returned x ∧ TermP 64 g w.heap.size s (s.size + 2) (qTerm s.data.toList p).1 (qTerm s.data.toList p).2 51 w x w' := by
 have H := Lib.hid h
 have hg := bsz h.lt
 obtain ⟨k, bad⟩ := p
 simp only at hp
 obtain ⟨c0, c1, c2, cf⟩ := h.cells
 simp only at c1 c2
 clear h
 cases bad
 ·have HQ := Lib.hid (show qTerm s.data.toList ⟨k, false⟩ = qGot ⟨k, false⟩ (rTerm s.data.toList (s.size + 2) k) from rfl)
  go_enter Tryz.func124, Tryz.ntmps124
  go_wp2
  obtain ⟨W, hW⟩ : ∃ W : World, W = w.alloc (.cells #[.string ⟨#[]⟩, .slice none 0 0] 64) := ⟨_, rfl⟩
  have hsW : W.heap.size = w.heap.size + 1 := by rw [hW]; simp
  have hGW := Lib.hid (show w.grownBy W (some g) by rw [hW]; exact gr_al (gr_refl w g) _)
  have hHW := Lib.hid (show PAt 51 W g s ⟨k, false⟩ by rw [hW]; exact H.out.below (by exact bel))
  have hRW := Lib.hid (show W.heap[w.heap.size]? = some (.cells #[.string ⟨#[]⟩, .slice none 0 0] 64 (0, 0)) by rw [hW]; exact heap_alloc_new w _)
  rw [← hW]
  clear hW c0 c1 c2 cf
  obtain ⟨d0, d1, d2, df⟩ := hHW.out.cells
  simp only at d1 d2
  obtain ⟨r0, r1, rf⟩ := cells2_cell hRW.out
  have hgW := bsz (show g < W.heap.size by omega)
  have hrW := bsz (show w.heap.size < W.heap.size by omega)
  have hn0 : W.heap.size ≠ g := by omega
  go_region_held3 (fun w' => w'.cell? ⟨g, 0, none⟩ = some (.string s) ∧ w'.cell? ⟨g, 1, none⟩ = some (.int .i64 (k : Nat))) (first | go_keep | (refine ⟨?_, ?_⟩ <;> exact cellB2 hb1 (by simp; omega) (by assumption)) | (refine ⟨?_, ?_⟩ <;> go_simp; done)) (first | (go_at_call 164; refine (l3Read_any (s.size + 2) s k _ hp hs (by omega)).mono ?_; rintro e0 w1 ⟨x, rfl, hb1, s0, p0, k0, c0', z0, rfl, hgot⟩; have hq1 := hb1.size; (try simp at hq1); have ⟨cb1, fb1⟩ := bcell hb1; have hg1 := bsz (show g < w1.heap.size by omega); have hr1 := bsz (show w.heap.size < w1.heap.size by omega); have hn1 : w1.heap.size ≠ g := by omega))
  all_goals
   first
   | (have HRT := Lib.hid (RT.first (by omega) hsW hHW.out hGW.out hRW.out hb1 hgot)
      generalize ((w1.setCell ⟨w.heap.size + 1, 0, none⟩ (.string s0)).setCell ⟨w.heap.size + 1, 1, none⟩ (.slice p0 k0 c0')) = wz at HRT ⊢)
   | (have HRT := Lib.hid (RT.last (by omega) hsW hHW.out hGW.out hRW.out hb1 hgot)
      generalize (w1.alloc (.cells #[.string s0, .slice p0 k0 c0'] 64)) = wz at HRT ⊢)
   clear hb1 cb1 fb1 hgot d0 d1 d2 df r0 r1 rf
   obtain ⟨d0, d1, d2, df⟩ := HRT.out.at_.cells
   simp only at d1 d2
   obtain ⟨r0, r1, rf⟩ := cells2_cell HRT.out.res
   obtain ⟨b0, b1, bf⟩ := cells2_cell HRT.out.box
   have hlz := HRT.out.lt
   have hz1 := bsz (show g < wz.heap.size by omega)
   have hz2 := bsz (show w.heap.size < wz.heap.size by omega)
   have hgz := HRT.out.got
   cases hr : rTerm s.data.toList (s.size + 2) k with
   | none =>
    rw [hr] at hgz HRT
    have hz0 : z0 = -1 := hgz
    subst hz0
    have HQ2 := Lib.hid (HQ.out.trans (congrArg _ hr))
    clear hgz hr
    go_wp2
    refine bodyPost_ret (v := .agg #[.string ⟨#[]⟩, .slice none 0 0]) (by simp only [results, Tryz.results124]; go_simp) rfl ⟨_, rfl, ?_⟩
    rw [HQ2.out]
    exact HRT.out.no _ _
   | some tj =>
    obtain ⟨t, j⟩ := tj
    rw [hr] at hgz HRT
    have hz0 : z0 = (j : Nat) := hgz.1
    subst hz0
    have HQ2 := Lib.hid (HQ.out.trans (congrArg _ hr))
    clear hgz hr
    go_wp2
    refine bodyPost_ret (v := .agg #[.string s0, .slice p0 k0 c0']) (by simp only [results, Tryz.results124]; go_simp) rfl ⟨_, rfl, ?_⟩
    rw [HQ2.out]
    exact HRT.out.yes _ _
 ·have HQ := Lib.hid (show qTerm s.data.toList ⟨k, true⟩ = (tm0, ⟨k, true⟩) from rfl)
  go_enter Tryz.func124, Tryz.ntmps124
  have hP := H.out.below (show Below w.heap.size w (w.alloc (.cells #[.string ⟨#[]⟩, .slice none 0 0] 64)) by exact bel)
  have HPP := Lib.hid hP
  clear hP
  go_wp2
  refine bodyPost_ret (v := .agg #[.string ⟨#[]⟩, .slice none 0 0]) (by simp only [results, Tryz.results124]; go_simp) rfl ⟨_, rfl, ?_⟩
  rw [HQ.out]
  exact ⟨_, _, rfl, ⟨_, rfl, Nat.zero_le _, OwnRow.nil _ _ _ _ _⟩, HPP.out, gr_al (gr_refl w g) _⟩
def FmQ (m g : Nat) (s : ByteArray) (F : Fm) (p' : PSt) (w : World) (x : Value) (w' : World) : Prop := FmV m (NewB w w') w' F x ∧ PAt 51 w' g s p' ∧ w.grownBy w' (some g)
theorem FmQ.of {m g rb : Nat} {s : ByteArray} {F : Fm} {p' : PSt} {w w4 w5 : World} {S : Nat → Prop} {x : Value} (hP : PAt 51 w4 g s p') (hG : w.grownBy w4 (some g)) (hb : Below w4.heap.size w4 w5) (hV : FmV m S w5 F x) (hS : ∀ b, S b → rb < b ∧ b < w5.heap.size) (hrb : w.heap.size ≤ rb) (hg : g < rb) (a0 a1 a2 a3 a4 : Value) :
  FmQ m g s F p' w x (((((w5.setCell ⟨rb, 0, none⟩ a0).setCell ⟨rb, 1, none⟩ a1).setCell ⟨rb, 2, none⟩ a2).setCell ⟨rb, 3, none⟩ a3).setCell ⟨rb, 4, none⟩ a4) := by
 have hk : ∀ b, b ≠ rb → (((((w5.setCell ⟨rb, 0, none⟩ a0).setCell ⟨rb, 1, none⟩ a1).setCell ⟨rb, 2, none⟩ a2).setCell ⟨rb, 3, none⟩ a3).setCell ⟨rb, 4, none⟩ a4).heap[b]? = w5.heap[b]? := fun b hb => by
  repeat rw [heap_setCell_other _ _ _ _ (fun e => hb e)]
 obtain ⟨v0, v1, v2, v3, v4, rfl, hO⟩ := hV
 refine ⟨⟨_, _, _, _, _, rfl, FmOwn.mono _ _ _ _ (Nat.le_refl _) (fun b hb' _ => hk b (by have := hS b hb'; omega)) (fun b hb' => ?_) hO⟩, (hk g (by omega)).trans (hP.below hb), ?_⟩
 ·have := hS b hb'
  exact ⟨by omega, by simpa using this.2⟩
 ·exact gr_sc (gr_sc (gr_sc (gr_sc (gr_sc (gr_below hG hb) (.inr hrb) _) (.inr hrb) _) (.inr hrb) _) (.inr hrb) _) (.inr hrb) _
theorem FmQ.mono {m n g : Nat} {s : ByteArray} {F : Fm} {p' : PSt} {w w' : World} {x : Value} (hm : m ≤ n) (h : FmQ m g s F p' w x w') : FmQ n g s F p' w x w' := by
 obtain ⟨⟨v0, v1, v2, v3, v4, hx, hO⟩, h2⟩ := h
 exact ⟨⟨v0, v1, v2, v3, v4, hx, FmOwn.mono _ _ _ _ hm (SameOn.refl _ _) (fun _ h => h) hO⟩, h2⟩
def QQ (m g rb : Nat) (s : ByteArray) (F : Fm) (pq : PSt) (ro : Obj) (w0 : World) (y : Value) (w : World) : Prop :=
 PAt 51 w g s pq ∧ w0.grownBy w (some g) ∧ FmV m (fun b => rb < b ∧ b < w.heap.size) w F y ∧ w.heap[rb]? = some ro
theorem eq_ownQ {f g rb bt : Nat} {s : ByteArray} {p pq : PSt} {ro : Obj} {w0 W w1 : World} {n : List UInt8} {v v0 v1 : Value} {xs : List Tm} {tq : Tm} (h : TSt 64 51 ro w0 g rb bt s n p v xs f W) (hn : n.length ≤ 1000000) (hT : TermP 64 g W.heap.size s f tq pq 51 W.drew (.agg #[v0, v1]) w1) :
  TmOwn 64 (f + 2) (fun b => rb < b ∧ b < w1.heap.size + 1) (w1.alloc (.cells #[.string ⟨n.toArray⟩, v, v0, v1] 64)) (eqTm (.mk ⟨n.toArray⟩ xs) tq) [.string ⟨#[61]⟩, .slice (some ⟨w1.heap.size, 0, none⟩) 2 2] := by
 obtain ⟨v0', v1', he, hO, hP, hG⟩ := hT
 simp only [Value.agg.injEq, Array.mk.injEq, List.cons.injEq, and_true] at he
 obtain ⟨rfl, rfl⟩ := he
 obtain ⟨l1, l2, l3, l4⟩ := h.lt
 have hz : W.heap.size ≤ w1.heap.size := hG.size
 have hG1 : W.grownBy w1 (some g) := ⟨hG.os, hG.tape, hG.output, hG.size, hG.block⟩
 have h1 := TmOwn.mono (f + 1) (f + 1) _ _ (Nat.le_refl _) (w' := w1) (fun b hb hlt => hG1.block b hlt (by simp; omega)) (fun _ h => h) (h.term hn)
 refine ⟨_, rfl, by decide, ?_⟩
 exact OwnRow.two' rfl [.string ⟨n.toArray⟩, v] [v0, v1] _ rfl rfl rfl (TmOwn.below ((Below.refl _ _).alloc (Nat.le_refl _) _) h1) (TmOwn.mono f (f + 1) _ _ (by omega) (SameOn.below ((Below.refl _ _).alloc (Nat.le_refl _) _)) (fun _ h => h) hO)
  (fun b hb => by omega) (fun b hb => hb.2) (fun b hb hb' => by omega) (fun b hb => by omega) (fun b hb => by omega) (by omega)
theorem atomF_own {eT eF : TypeId} {m : Nat} {S : Nat → Prop} {w : World} {t : Tm} {v0 v1 : Value} (h : TmOwn eT m S w t [v0, v1]) : FmOwn eT eF (m + 1) S w (atomOfF t) [.int .i64 3, v0, v1, .string ⟨#[]⟩, .slice none 0 0] :=
 ⟨_, _, _, S, fun _ => False, rfl, by omega, Nat.zero_le _, h, OwnRow.nil _ _ _ _ _, fun _ hb => ⟨hb, fun h => h⟩, fun _ h => h.elim⟩
end Go.Proofs.YtabkdonplmlbcaaGreatDoor
