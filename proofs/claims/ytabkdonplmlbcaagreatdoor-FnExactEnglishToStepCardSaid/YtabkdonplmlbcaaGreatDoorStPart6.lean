import Derived.OwnWalk
import Derived.Test.YtabkdonplmlbcaaGreatDoorStPart5
namespace Go.Proofs.YtabkdonplmlbcaaGreatDoor
set_option maxRecDepth 100000
open Go.RowKit
def PAt (T : TypeId) (w : World) (g : Nat) (s : ByteArray) (p : PSt) : Prop := w.heap[g]? = some (.cells #[.string s, .int .i64 (p.pos : Nat), .bool p.bad] T (0, 0))
theorem PAt.cells {T : TypeId} {w : World} {g : Nat} {s : ByteArray} {p : PSt} (h : PAt T w g s p) : w.cell? ⟨g, 0, none⟩ = some (.string s) ∧ w.cell? ⟨g, 1, none⟩ = some (.int .i64 (p.pos : Nat)) ∧ w.cell? ⟨g, 2, none⟩ = some (.bool p.bad) ∧ (∀ j, w.frozen? ⟨g, j, none⟩ = false) := by
 refine ⟨?_, ?_, ?_, fun j => frozen_of_row w g j _ _ h⟩
 ·rw [cell_of_row w g 0 _ _ (0, 0) h]; rfl
 ·rw [cell_of_row w g 1 _ _ (0, 0) h]; rfl
 ·rw [cell_of_row w g 2 _ _ (0, 0) h]; rfl
theorem PAt.lt {T : TypeId} {w : World} {g : Nat} {s : ByteArray} {p : PSt} (h : PAt T w g s p) : g < w.heap.size := by
 rcases Nat.lt_or_ge g w.heap.size with h' | h'
 ·exact h'
 ·unfold PAt at h; rw [Array.getElem?_eq_none h'] at h; cases h
theorem PAt.below {T : TypeId} {w w1 : World} {g : Nat} {s : ByteArray} {p : PSt} (h : PAt T w g s p) (hb : Below w.heap.size w w1) : PAt T w1 g s p := (hb.block g h.lt).trans h
theorem PAt.pos {T : TypeId} {w : World} {g : Nat} {s : ByteArray} {p : PSt} (h : PAt T w g s p) (k : Nat) : PAt T (w.setCell ⟨g, 1, none⟩ (.int .i64 (k : Nat))) g s ⟨k, p.bad⟩ := by
 have := heap_setCell_same w g 1 _ T (.int .i64 (k : Nat)) h
 simpa [PAt] using this
theorem PAt.fail {T : TypeId} {w : World} {g : Nat} {s : ByteArray} {p : PSt} (h : PAt T w g s p) : PAt T (w.setCell ⟨g, 2, none⟩ (.bool true)) g s ⟨p.pos, true⟩ := by
 have := heap_setCell_same w g 2 _ T (.bool true) h
 simpa [PAt] using this
def PStep (T : TypeId) (g : Nat) (s : ByteArray) (p' : PSt) (P : Value → World → Prop) (w : World) (e : Ending) (w' : World) : Prop := ∃ v, e = .returned v ∧ P v w' ∧ PAt T w' g s p' ∧ w.grownBy w' (some g)
theorem hasPrefix_eq (l p : List UInt8) : Lib.hasPrefix l p = p.isPrefixOf l := by
 rfl
theorem pTake_list (s t : ByteArray) (p : PSt) (h : p.bad = false) : pTake s.data.toList t.data.toList p = t.data.toList.isPrefixOf (s.data.toList.drop p.pos) := by rw [pTake, h]; rfl
theorem hasPrefix_any (s p : ByteArray) (w : World) : Calls Tryz.prog 65 #[.string s, .string p] w fun e w' => e = .returned (.bool (Lib.hasPrefix s.data.toList p.data.toList)) ∧ Below w.heap.size w w' :=
 (Tryz.strings_HasPrefix s p w).mono fun _ _ ⟨he, hw⟩ => ⟨he, hw ▸ Below.refl _ _⟩
set_option maxHeartbeats 1600000 in
theorem has_any (g : Nat) (s t : ByteArray) (p : PSt) (w : World) (h : PAt 35 w g s p) (hp : p.pos ≤ s.size) (_hs : s.size ≤ maxLen) :
  Calls Tryz.prog 34 #[.pointer (some ⟨g, 0, none⟩), .string t] w fun e w' => e = .returned (.bool (pTake s.data.toList t.data.toList p)) ∧ Below w.heap.size w w' := by
 obtain ⟨c0, c1, c2, -⟩ := h.cells
 have hg := bsz h.lt
 unfold maxLen at _hs
 obtain ⟨k, bad⟩ := p
 simp only at hp c1 c2
 clear h
 cases bad
 ·have HT := Lib.hid (pTake_list s t ⟨k, false⟩ rfl)
  go_enter Tryz.func34, Tryz.ntmps34
  go_wp2
  refine wp_region_flowC w.heap.size [(⟨g, 0, none⟩, .string s), (⟨g, 1, none⟩, .int .i64 (k : Nat)), (⟨g, 2, none⟩, .bool false)] (by kernel_rfl) (by kernel_rfl) (by first | (intro _ _hs; cases _hs; done) | (simp only [List.forall_mem_cons]; go_simp)) fun C HC => ?_
  repeat (first | ((first | apply flow_free rfl | (apply flow_yes; (case hw => go_simp))); (intro L w' hun hrd hC; have ⟨hC, hb', hf'⟩ := flO HC hC; (try simp only [List.forall_mem_cons] at hf'); go_simp; first | exact ⟨flS HC hC, rfl⟩ | (rw [if_neg]; (exact ⟨flS HC hC, rfl⟩); omega) | (go_at_call 65; refine (hasPrefix_any _ _ _).mono ?_; rintro e w1 ⟨rfl, hb1⟩; exact ⟨rfl, flN HC hC (by first | (simp; done) | (simp; omega) | omega) hb1⟩)); go_simp) | (apply flow_noC HC; (case hw => (go_simp; try (intro hh; cases hh))); go_simp))
  refine flow_nil ?_
  intro L wz hL hz
  have ⟨_, hbz, hcz⟩ := flO HC hz
  try simp only [List.forall_mem_cons] at hcz
  go_wp2
  go_ret
  exact ⟨ret_bool (by rw [HT.out, List.take_of_length_le (by simp), hasPrefix_eq]), by exact bel⟩
 ·have HT := Lib.hid (show pTake s.data.toList t.data.toList ⟨k, true⟩ = false from rfl)
  go_enter Tryz.func34, Tryz.ntmps34
  go_wp2
  refine wp_region_flowC w.heap.size [(⟨g, 0, none⟩, .string s), (⟨g, 1, none⟩, .int .i64 (k : Nat)), (⟨g, 2, none⟩, .bool true)] (by kernel_rfl) (by kernel_rfl) (by first | (intro _ _hs; cases _hs; done) | (simp only [List.forall_mem_cons]; go_simp)) fun C HC => ?_
  repeat (first | ((first | apply flow_free rfl | (apply flow_yes; (case hw => go_simp))); (intro L w' hun hrd hC; have ⟨hC, hb', hf'⟩ := flO HC hC; (try simp only [List.forall_mem_cons] at hf'); go_simp; first | exact ⟨flS HC hC, rfl⟩ | (rw [if_neg]; (exact ⟨flS HC hC, rfl⟩); omega) | fail); go_simp) | (apply flow_noC HC; (case hw => (go_simp; try (intro hh; cases hh))); go_simp))
  refine flow_nil ?_
  intro L wz hL hz
  have ⟨_, hbz, hcz⟩ := flO HC hz
  try simp only [List.forall_mem_cons] at hcz
  go_wp2
  go_ret
  exact ⟨ret_bool (by rw [HT.out]), by exact bel⟩
set_option maxHeartbeats 1600000 in
theorem take_any (g : Nat) (s t : ByteArray) (p : PSt) (w : World) (h : PAt 35 w g s p) (hp : p.pos ≤ s.size) (hs : s.size ≤ 1000000000000) (ht : t.size ≤ 1000000) :
  Calls Tryz.prog 12 #[.pointer (some ⟨g, 0, none⟩), .string t] w (PStep 35 g s (if pTake s.data.toList t.data.toList p then pAdv t.data.toList p else p) (fun v _ => v = .bool (pTake s.data.toList t.data.toList p)) w) := by
 have H := Lib.hid h
 have hg := bsz h.lt
 obtain ⟨k, bad⟩ := p
 simp only at hp
 obtain ⟨c0, c1, c2, cf⟩ := h.cells
 simp only at c1 c2
 clear h
 cases hT : pTake s.data.toList t.data.toList ⟨k, bad⟩
 ·have HT := Lib.hid hT
  go_enter Tryz.func12, Tryz.ntmps12
  go_wp2_with fail
  refine (has_any g s t ⟨k, bad⟩ _ (H.out.below (by exact bel)) hp (by unfold maxLen; omega)).mono ?_
  rintro e w1 ⟨rfl, hb1⟩
  have ⟨cw1, fw1⟩ := bcell hb1
  have qw1 := hb1.size
  (try simp at qw1)
  (try have zw1w := bsz (show w.heap.size < w1.heap.size by omega))
  rw [HT.out]
  go_wp2
  go_ret
  exact ⟨_, rfl, rfl, H.out.below (by exact bel), gr_below (gr_refl w g) (by exact bel)⟩
 ·have HT := Lib.hid hT
  go_enter Tryz.func12, Tryz.ntmps12
  go_wp2_with fail
  refine (has_any g s t ⟨k, bad⟩ _ (H.out.below (by exact bel)) hp (by unfold maxLen; omega)).mono ?_
  rintro e w1 ⟨rfl, hb1⟩
  have ⟨cw1, fw1⟩ := bcell hb1
  have qw1 := hb1.size
  (try simp at qw1)
  (try have zw1w := bsz (show w.heap.size < w1.heap.size by omega))
  rw [HT.out]
  go_wp2
  go_ret
  exact ⟨_, rfl, rfl, (H.out.below hb1).pos (k + t.size), gr_sc (gr_below (gr_refl w g) hb1) (.inl rfl) _⟩
set_option maxHeartbeats 1600000 in
theorem must_any (g : Nat) (s t : ByteArray) (p : PSt) (w : World) (h : PAt 35 w g s p) (hp : p.pos ≤ s.size) (hs : s.size ≤ 1000000000000) (ht : t.size ≤ 1000000) :
  Calls Tryz.prog 11 #[.pointer (some ⟨g, 0, none⟩), .string t] w (PStep 35 g s (pMust s.data.toList t.data.toList p) (fun v _ => v = .tuple #[]) w) := by
 have H := Lib.hid h
 have hg := bsz h.lt
 cases hT : pTake s.data.toList t.data.toList p
 ·have HT := Lib.hid hT
  have HM := Lib.hid (show pMust s.data.toList t.data.toList p = ⟨p.pos, true⟩ by rw [pMust, hT]; rfl)
  clear h
  go_enter Tryz.func11, Tryz.ntmps11
  go_wp2_with fail
  refine (take_any g s t p _ H.out hp hs ht).mono ?_
  rw [HT.out]
  rintro e w1 ⟨v, rfl, rfl, h1, hg1⟩
  have H1 := Lib.hid h1
  have ⟨c1, f1⟩ := gcell hg1
  have hz := hg1.size
  obtain ⟨d0, d1, d2, df⟩ := h1.cells
  clear h1
  go_wp2
  go_end0
  exact ⟨_, rfl, rfl, by rw [HM.out]; exact H1.out.fail, gr_sc hg1 (.inl rfl) _⟩
 ·have HT := Lib.hid hT
  have HM := Lib.hid (show pMust s.data.toList t.data.toList p = pAdv t.data.toList p by rw [pMust, hT]; rfl)
  clear h
  go_enter Tryz.func11, Tryz.ntmps11
  go_wp2_with fail
  refine (take_any g s t p _ H.out hp hs ht).mono ?_
  rw [HT.out]
  rintro e w1 ⟨v, rfl, rfl, h1, hg1⟩
  have H1 := Lib.hid h1
  clear h1
  go_wp2
  go_end0
  exact ⟨_, rfl, rfl, by rw [HM.out]; exact H1.out, hg1⟩
set_option maxHeartbeats 1600000 in
theorem ended_any (g : Nat) (s : ByteArray) (p : PSt) (w : World) (h : PAt 35 w g s p) :
  Calls Tryz.prog 68 #[.pointer (some ⟨g, 0, none⟩)] w fun e w' => e = .returned (.bool (!p.bad && p.pos == s.size)) ∧ Below w.heap.size w w' := by
 obtain ⟨c0, c1, c2, -⟩ := h.cells
 have hg := bsz h.lt
 obtain ⟨k, bad⟩ := p
 simp only at c1 c2
 clear h
 cases bad
 ·go_enter Tryz.func68, Tryz.ntmps68
  go_wp2
  refine wp_region_flowC w.heap.size [(⟨g, 0, none⟩, .string s), (⟨g, 1, none⟩, .int .i64 (k : Nat)), (⟨g, 2, none⟩, .bool false)] (by kernel_rfl) (by kernel_rfl) (by first | (intro _ hs; cases hs; done) | (simp only [List.forall_mem_cons]; go_simp)) fun C HC => ?_
  repeat (first | ((first | apply flow_free rfl | (apply flow_yes; (case hw => go_simp))); (intro L w' hun hrd hC; have ⟨hC, hb', hf'⟩ := flO HC hC; (try simp only [List.forall_mem_cons] at hf'); go_simp; first | exact ⟨flS HC hC, rfl⟩ | (rw [if_neg]; (exact ⟨flS HC hC, rfl⟩); omega) | fail); go_simp) | (apply flow_noC HC; (case hw => (go_simp; try (intro hh; cases hh))); go_simp))
  refine flow_nil ?_
  intro L wz hL hz
  have ⟨_, hbz, hcz⟩ := flO HC hz
  try simp only [List.forall_mem_cons] at hcz
  go_wp2
  go_ret
  exact ⟨ret_bool (by rw [Bool.eq_iff_iff]; simp; omega), by exact bel⟩
 ·go_enter Tryz.func68, Tryz.ntmps68
  go_wp2
  refine wp_region_flowC w.heap.size [(⟨g, 0, none⟩, .string s), (⟨g, 1, none⟩, .int .i64 (k : Nat)), (⟨g, 2, none⟩, .bool true)] (by kernel_rfl) (by kernel_rfl) (by first | (intro _ hs; cases hs; done) | (simp only [List.forall_mem_cons]; go_simp)) fun C HC => ?_
  repeat (first | ((first | apply flow_free rfl | (apply flow_yes; (case hw => go_simp))); (intro L w' hun hrd hC; have ⟨hC, hb', hf'⟩ := flO HC hC; (try simp only [List.forall_mem_cons] at hf'); go_simp; first | exact ⟨flS HC hC, rfl⟩ | (rw [if_neg]; (exact ⟨flS HC hC, rfl⟩); omega) | fail); go_simp) | (apply flow_noC HC; (case hw => (go_simp; try (intro hh; cases hh))); go_simp))
  refine flow_nil ?_
  intro L wz hL hz
  have ⟨_, hbz, hcz⟩ := flO HC hz
  try simp only [List.forall_mem_cons] at hcz
  go_wp2
  go_ret
  exact ⟨ret_bool (by simp), by exact bel⟩
theorem wordL_at {s : ByteArray} {k j : Nat} {bad : Bool} (hall : ∀ i, k ≤ i → (h : i < j) → (h2 : i < s.size) → wordC s[i] = true) (h1 : k ≤ j) (h2 : j ≤ s.size) (hst : ∀ h : j < s.size, wordC s[j] = false) : pWordL s.data.toList ⟨k, bad⟩ = (s.data.toList.drop k).take (j - k) := by
 have e : s.data.toList.drop k = (s.data.toList.drop k).take (j - k) ++ s.data.toList.drop j := by
  have := (List.take_append_drop (j - k) (s.data.toList.drop k)).symm
  rw [List.drop_drop, show k + (j - k) = j by omega] at this; exact this
 show (s.data.toList.drop k).takeWhile wordC = _
 rw [e, takeWhile_app]
 ·rw [List.take_append_of_le_length (by rw [List.length_take, List.length_drop, ← size_list]; omega), List.take_take, Nat.min_self]
 ·rw [List.all_eq_true]
  intro c hc
  obtain ⟨i, hi, rfl⟩ := List.getElem_of_mem hc
  rw [List.length_take, List.length_drop, ← size_list] at hi
  rw [List.getElem_take, List.getElem_drop]
  exact hall (k + i) (by omega) (by omega) (by omega)
 ·intro c hc
  rw [List.head?_drop] at hc
  obtain ⟨hlt, rfl⟩ := List.getElem?_eq_some_iff.1 hc
  exact hst (by simpa using hlt)
theorem pWord_empty {L : List UInt8} {k : Nat} {bad : Bool} (h : (pWordL L ⟨k, bad⟩).length = 0) : pWord L ⟨k, bad⟩ = ([], ⟨k + (pWordL L ⟨k, bad⟩).length, true⟩) := by
 rw [pWord, if_pos (by simp [List.length_eq_zero_iff.1 h])]
theorem pWord_bad {L : List UInt8} {k : Nat} : pWord L ⟨k, true⟩ = ([], ⟨k + (pWordL L ⟨k, true⟩).length, true⟩) := by rw [pWord, if_pos (by simp)]
theorem pWord_some {L : List UInt8} {k : Nat} (h : (pWordL L ⟨k, false⟩).length ≠ 0) : pWord L ⟨k, false⟩ = (pWordL L ⟨k, false⟩, ⟨k + (pWordL L ⟨k, false⟩).length, false⟩) := by
 rw [pWord, if_neg]
 cases hq : pWordL L ⟨k, false⟩ with
 | nil => rw [hq] at h; exact absurd rfl h
 | cons a l => simp
def posOf (w : World) (g : Nat) : Nat := (intOf ((w.cell? ⟨g, 1, none⟩).getD undef)).toNat
theorem PAt.posOf {T : TypeId} {w : World} {g : Nat} {s : ByteArray} {p : PSt} (h : PAt T w g s p) : posOf w g = p.pos := by rw [Go.Proofs.YtabkdonplmlbcaaGreatDoor.posOf, h.cells.2.1]; simp [intOf]
theorem pTake_le {L t : List UInt8} {p : PSt} (h : pTake L t p = true) (hp : p.pos ≤ L.length) : p.pos + t.length ≤ L.length := by
 simp only [pTake, Bool.and_eq_true] at h
 have := (List.isPrefixOf_iff_prefix.1 h.2).length_le
 rw [List.length_drop] at this; omega
theorem pWordL_le (L : List UInt8) (p : PSt) (hp : p.pos ≤ L.length) : p.pos + (pWordL L p).length ≤ L.length := by
 have : (pWordL L p).length ≤ (L.drop p.pos).length := (List.takeWhile_sublist _).length_le
 rw [List.length_drop] at this; omega
theorem pWord_len (L : List UInt8) (p : PSt) : (pWord L p).1.length ≤ L.length := by
 have h : (pWordL L p).length ≤ (L.drop p.pos).length := (List.takeWhile_sublist _).length_le
 rw [List.length_drop] at h
 unfold pWord; split <;> simp <;> omega
theorem pWord_pos (L : List UInt8) (p : PSt) (hp : p.pos ≤ L.length) : p.pos ≤ (pWord L p).2.pos ∧ (pWord L p).2.pos ≤ L.length := by
 have := pWordL_le L p hp
 unfold pWord; split <;> (constructor <;> simp <;> omega)
theorem pMust_pos (L t : List UInt8) (p : PSt) (hp : p.pos ≤ L.length) : p.pos ≤ (pMust L t p).pos ∧ (pMust L t p).pos ≤ L.length := by
 unfold pMust
 split
 ·rename_i h; have := pTake_le h hp; simp only [pAdv]; omega
 ·exact ⟨Nat.le_refl _, hp⟩
mutual
theorem pTerm_pos (L : List UInt8) : ∀ (f : Nat) (p : PSt), p.pos ≤ L.length → p.pos ≤ (pTerm L f p).2.pos ∧ (pTerm L f p).2.pos ≤ L.length
 | 0, p, hp => by rw [pTerm]; exact ⟨Nat.le_refl _, hp⟩
 | f + 1, p, hp => by
  have h1 := pWord_pos L p hp
  rw [pTerm]
  split
  ·rename_i ht
   have h2 := pTake_le ht h1.2
   have h3 := pTerm_pos L f (pAdv [40] (pWord L p).2) h2
   have h4 := pArgs_pos L [44] f _ h3.2
   have h5 := pMust_pos L [41] _ h4.2
   simp only [pAdv] at h3 h4 h5 ⊢
   omega
  ·exact h1
theorem pArgs_pos (L sep : List UInt8) : ∀ (f : Nat) (p : PSt), p.pos ≤ L.length → p.pos ≤ (pArgs L sep f p).2.pos ∧ (pArgs L sep f p).2.pos ≤ L.length
 | 0, p, hp => by rw [pArgs]; exact ⟨Nat.le_refl _, hp⟩
 | f + 1, p, hp => by
  rw [pArgs]
  split
  ·rename_i ht
   have h2 := pTake_le ht hp
   have h3 := pTerm_pos L f (pAdv sep p) h2
   have h4 := pArgs_pos L sep f _ h3.2
   simp only [pAdv] at h3 h4 ⊢
   omega
  ·exact ⟨Nat.le_refl _, hp⟩
end
def TermP (T : TypeId) (g lo : Nat) (s : ByteArray) (f : Nat) (t : Tm) (p' : PSt) (TP : TypeId) (W : World) (x : Value) (w : World) : Prop :=
 ∃ v0 v1, x = .agg #[v0, v1] ∧ TmOwn T f (fun b => lo ≤ b ∧ b < w.heap.size) w t [v0, v1] ∧ PAt TP w g s p' ∧ W.grownBy w (some g)
theorem TermP.mono {T TP : TypeId} {g lo f f' : Nat} {s : ByteArray} {t : Tm} {p' : PSt} {W w : World} {x : Value} (hf : f ≤ f') (h : TermP T g lo s f t p' TP W x w) : TermP T g lo s f' t p' TP W x w := by
 obtain ⟨v0, v1, h1, h2, h3⟩ := h
 exact ⟨v0, v1, h1, TmOwn.mono f f' t _ hf (SameOn.refl _ _) (fun _ h => h) h2, h3⟩
def AppSt (T : TypeId) (_g bt : Nat) (CP : Value → World → Prop) (v : Value) (n : Nat) (W : World) (i j k : Nat) : Nat → (Nat → Value) → World → Prop
 | 0, _, w => w = W.drew
 | 1, u, w => CP (u i) w
 | 2, u, w => ∃ w1 v0 v1, CP (.agg #[v0, v1]) w1 ∧ u j = .slice (some ⟨w1.heap.size, 0, none⟩) 1 1 ∧ w = w1.alloc (.cells #[v0, v1] T)
 | 3, u, w => ∃ w1 v0 v1, CP (.agg #[v0, v1]) w1 ∧ (∀ b xs, w1.ownsRow b T 2 v n xs → b ≤ w1.heap.size → w.ownsRow b T 2 (u k) (n + 1) (xs ++ [v0, v1])) ∧ w1.grownBy w v.ownBlock ∧ NewRow v (u k) w1.heap.size ∧ w1.heap.size < w.heap.size
 | 4, u, w => ∃ w1 w3 v0 v1, CP (.agg #[v0, v1]) w1 ∧ (∀ b xs, w1.ownsRow b T 2 v n xs → b ≤ w1.heap.size → w3.ownsRow b T 2 (u k) (n + 1) (xs ++ [v0, v1])) ∧ w1.grownBy w3 v.ownBlock ∧ NewRow v (u k) w1.heap.size ∧ w1.heap.size < w3.heap.size ∧ w = w3.setCell ⟨bt, 1, none⟩ (u k)
 | _, _, _ => False
theorem AppSt.cell {T : TypeId} {g bt n i j k : Nat} {CP : Value → World → Prop} {v v' : Value} {W : World} (hG : ∀ x w', CP x w' → W.grownBy w' (some g)) (hc : W.cell? ⟨bt, 1, none⟩ = some v') (hne : bt ≠ g) {m : Nat} (hm : m ≤ 2) {u : Nat → Value} {w : World} (h : AppSt T g bt CP v n W i j k m u w) : w.cell? ⟨bt, 1, none⟩ = some v' := by
 match m, hm, h with
 | 0, _, h => obtain rfl : w = W.drew := h; exact hc
 | 1, _, h => exact grown_cell (hG _ _ h) hc (by simpa using hne)
 | 2, _, h =>
  obtain ⟨w1, v0, v1, h1, _, rfl⟩ := h
  have h2 := grown_cell (hG _ _ h1) hc (by simpa using hne)
  exact (((Below.refl w1.heap.size w1).alloc (Nat.le_refl _) _).cell (World.block_lt_of_cell? w1 _ h2)).trans h2
structure TSt (T TP : TypeId) (ro : Obj) (w : World) (g rb bt : Nat) (s : ByteArray) (n : List UInt8) (p : PSt) (v : Value) (xs : List Tm) (f : Nat) (W : World) : Prop where
 at_ : PAt TP W g s p
 cell : W.heap[bt]? = some (.cells #[.string ⟨n.toArray⟩, v] T (0, 0))
 res : W.heap[rb]? = some ro
 row : OwnRow (fun b => rb < b ∧ b ≠ bt ∧ b < W.heap.size) W T 2 (fun S x c => TmOwn T f S W x c) v xs
 gr : w.grownBy W (some g)
 lt : g < w.heap.size ∧ w.heap.size ≤ rb ∧ rb < bt ∧ bt < W.heap.size
theorem heap_lt {w : World} {b : Nat} {o : Obj} (h : w.heap[b]? = some o) : b < w.heap.size := by
 rcases Nat.lt_or_ge b w.heap.size with h' | h'
 ·exact h'
 ·rw [Array.getElem?_eq_none h'] at h; cases h
theorem own_lt' {w : World} {base : Nat} {e : TypeId} {size : Nat} {v : Value} {n : Nat} {xs : List Value} (h : w.ownsRow base e size v n xs) {g : Nat} (hg : v.ownBlock = some g) : g < w.heap.size := by
 rcases h.2 with ⟨rfl, _⟩ | ⟨g', cap, cur, rfl, _, hh, _⟩
 ·simp [Value.ownBlock] at hg
 ·have : g' = g := by simpa [Value.ownBlock] using hg
  subst this; exact heap_lt hh
theorem elemTmI : Elem Tryz.prog 62 64 2 40 := elem_of Tryz.underlying62 (z := .agg #[.string ⟨#[]⟩, .slice none 0 0]) (by kernel_rfl) rfl (by omega)
theorem TSt.three {T TP : TypeId} {ro : Obj} {w W w' : World} {g rb bt : Nat} {s : ByteArray} {n : List UInt8} {p : PSt} {v z : Value} {xs : List Tm} {f : Nat} {CP : Value → World → Prop} (h : TSt T TP ro w g rb bt s n p v xs f W) (hG : ∀ x w', CP x w' → W.grownBy w' (some g))
  {w1 : World} {v0 v1 x : Value} (hcp : CP x w1) (happ : ∀ b ys, w1.ownsRow b T 2 v xs.length ys → b ≤ w1.heap.size → w'.ownsRow b T 2 z (xs.length + 1) (ys ++ [v0, v1])) (hg3 : w1.grownBy w' v.ownBlock) :
  (∃ q c, z = .slice (some ⟨q, 0, none⟩) (xs.length + 1) c) ∧ w'.heap[bt]? = some (.cells #[.string ⟨n.toArray⟩, v] T (0, 0)) := by
 obtain ⟨l1, l2, l3, l4⟩ := h.lt
 have hG1 := hG _ _ hcp
 have hz1 := hG1.size
 obtain ⟨hm, vals, Ss, r1, r2, r3, r4⟩ := h.row
 have h1 := happ 0 vals (own_same r1 fun b hb hl => hG1.block b hl (by have := r2 b hb; simp; omega)) (Nat.zero_le _)
 refine ⟨own_form h1 (by omega), ?_⟩
 exact (hg3.block bt (by omega) (fun e => (r2 bt e.symm).2.1 rfl)).trans ((hG1.block bt l4 (by simp; omega)).trans h.cell)
theorem TSt.app {T TP : TypeId} {ro : Obj} {w W w4 : World} {g rb bt : Nat} {s : ByteArray} {n : List UInt8} {p p' : PSt} {v : Value} {xs : List Tm} {f i j k : Nat} {t : Tm} {u : Nat → Value} (h : TSt T TP ro w g rb bt s n p v xs f W)
  (hA : AppSt T g bt (TermP T g W.heap.size s f t p' TP W.drew) v xs.length W i j k 4 u w4) (hlen : xs.length + 1 ≤ 1000000) : TSt T TP ro w g rb bt s n p' (u k) (xs ++ [t]) f w4 := by
 obtain ⟨w1, w3, v0, v1, ⟨v0', v1', he, hO, hP, hG⟩, happ, hg3, hnr, hsz, rfl⟩ := hA
 simp only [Value.agg.injEq, Array.mk.injEq, List.cons.injEq, and_true] at he
 obtain ⟨rfl, rfl⟩ := he
 obtain ⟨l1, l2, l3, l4⟩ := h.lt
 have hG1 : W.grownBy w1 (some g) := ⟨hG.os, hG.tape, hG.output, hG.size, hG.block⟩
 have hz1 := hG1.size
 obtain ⟨hm, vals, Ss, r1, r2, r3, r4⟩ := h.row
 have hvb : ∀ b, v.ownBlock = some b → rb < b ∧ b ≠ bt ∧ b < W.heap.size := fun b hb => r2 b hb
 have keep : ∀ b, b < W.heap.size → b ≠ g → v.ownBlock ≠ some b → w3.heap[b]? = W.heap[b]? := fun b hb hne hv => (hg3.block b (by omega) (fun e => hv e.symm)).trans (hG1.block b hb (by simpa using hne))
 have nob : ∀ b, (b ≤ rb ∨ b = bt) → v.ownBlock ≠ some b := fun b hb e => by have := hvb b e; omega
 have hrow1 := h.row.mono (S' := fun b => rb < b ∧ b ≠ bt ∧ b < W.heap.size) (w' := w1) (R' := fun S x c => TmOwn T f S w1 x c) (fun b hb hlt => hG1.block b hlt (by simp; omega)) (fun _ h => h)
  (fun S x c _ hS hx => TmOwn.mono f f x c (Nat.le_refl _) (fun b hb hlt => hG1.block b hlt (by have := hS b hb; simp; omega)) (fun _ h => h) hx)
 have hown3 : ∀ b, (u k).ownBlock = some b → b < w3.heap.size := fun b hb => own_lt' (happ 0 vals (own_same r1 fun b' hb' hlt => hG1.block b' hlt (by have := hvb b' hb'; simp; omega)) (Nat.zero_le _)) hb
 have hrow3 := OwnRow.snoc (S' := fun b => rb < b ∧ b ≠ bt ∧ b < w3.heap.size) (R' := fun S x c => TmOwn T f S w3 x c) hrow1 hO rfl (fun vals' hv => happ 0 vals' hv (Nat.zero_le _)) hg3 hnr (by unfold maxLen; omega)
  (fun b hb hS => by omega) (fun b hb => by omega) (fun b hb => hb.2) (fun b hb => by omega) (fun b hb => by omega)
  (fun b hb => ⟨by
   rcases hnr with e | ⟨b', e, hge⟩
   ·rw [e] at hb; exact (hvb b hb).1
   ·rw [e] at hb; injection hb with hb; omega, by
   rcases hnr with e | ⟨b', e, hge⟩
   ·rw [e] at hb; exact (hvb b hb).2.1
   ·rw [e] at hb; injection hb with hb; omega, hown3 b hb⟩)
  (fun S x c hS hx => TmOwn.mono f f x c (Nat.le_refl _) (fun b hb hlt => hg3.block b hlt (fun e => (hS b hb).2 e.symm)) (fun _ h => h) hx)
 have hbt3 : w3.heap[bt]? = some (.cells #[.string ⟨n.toArray⟩, v] T (0, 0)) := (keep bt l4 (by omega) (nob bt (.inr rfl))).trans h.cell
 refine ⟨?_, ?_, ?_, ?_, ?_, l1, l2, l3, by simp; omega⟩
 ·have h3 : PAt TP w3 g s p' := (hg3.block g (by omega) (fun e => nob g (.inl (by omega)) e.symm)).trans hP
  exact (heap_setCell_other w3 ⟨bt, 1, none⟩ g (u k) (by simp; omega)).trans h3
 ·have := heap_setCell_same w3 bt 1 _ T (u k) hbt3
  simpa using this
 ·exact (heap_setCell_other w3 ⟨bt, 1, none⟩ rb (u k) (by simp; omega)).trans ((keep rb (by omega) (by omega) (nob rb (.inl (Nat.le_refl _)))).trans h.res)
 ·exact hrow3.mono (fun b hb hlt => heap_setCell_other w3 ⟨bt, 1, none⟩ b (u k) (by simp; omega)) (fun b hb => by simpa using hb)
   (fun S x c _ hS hx => TmOwn.mono f f x c (Nat.le_refl _) (fun b hb hlt => heap_setCell_other w3 ⟨bt, 1, none⟩ b (u k) (by have := hS b hb; simp; omega)) (fun _ h => h) hx)
 ·have h1 := gr_trans h.gr hG1
  have h3 : w.grownBy w3 (some g) := ⟨hg3.os.trans h1.os, hg3.tape.trans h1.tape, hg3.output.trans h1.output, Nat.le_trans h1.size (Nat.le_of_lt (Nat.lt_of_le_of_lt (Nat.le_refl _) hsz)), fun b hb hne => (hg3.block b (Nat.lt_of_lt_of_le hb h1.size) (fun e => nob b (.inl (by omega)) e.symm)).trans (h1.block b hb hne)⟩
  exact gr_sc h3 (.inr (by simp; omega)) _
theorem TSt.reader {T TP : TypeId} {ro : Obj} {w W w' : World} {g rb bt : Nat} {s : ByteArray} {n : List UInt8} {p p' : PSt} {v : Value} {xs : List Tm} {f : Nat} (h : TSt T TP ro w g rb bt s n p v xs f W) (hP : PAt TP w' g s p') (hG : W.grownBy w' (some g)) : TSt T TP ro w g rb bt s n p' v xs f w' := by
 obtain ⟨l1, l2, l3, l4⟩ := h.lt
 have hz := hG.size
 refine ⟨hP, (hG.block bt l4 (by simp; omega)).trans h.cell, (hG.block rb (by omega) (by simp; omega)).trans h.res, ?_, gr_trans h.gr hG, l1, l2, l3, by omega⟩
 exact h.row.mono (fun b hb hlt => hG.block b hlt (by simp; omega)) (fun b hb => by omega)
  (fun S x c _ hS hx => TmOwn.mono f f x c (Nat.le_refl _) (fun b hb hlt => hG.block b hlt (by have := hS b hb; simp; omega)) (fun _ h => h) hx)
theorem cells2_cell {w : World} {g : Nat} {x y : Value} {t : TypeId} (h : w.heap[g]? = some (.cells #[x, y] t (0, 0))) : w.cell? ⟨g, 0, none⟩ = some x ∧ w.cell? ⟨g, 1, none⟩ = some y ∧ (∀ j, w.frozen? ⟨g, j, none⟩ = false) := by
 refine ⟨?_, ?_, fun j => frozen_of_row w g j _ _ h⟩
 ·rw [cell_of_row w g 0 _ _ (0, 0) h]; rfl
 ·rw [cell_of_row w g 1 _ _ (0, 0) h]; rfl
theorem TSt.init {T TP : TypeId} {w w1 w2 : World} {g : Nat} {s : ByteArray} {n : List UInt8} {p : PSt} {f : Nat} (hg : g < w.heap.size) (hg1 : (w.alloc (.cells #[.string ⟨#[]⟩, .slice none 0 0] T)).grownBy w1 (some g))
  (hg2 : (w1.alloc (.cells #[.string ⟨n.toArray⟩, .slice none 0 0] T)).grownBy w2 (some g)) (hP : PAt TP w2 g s p) : TSt T TP (.cells #[.string ⟨#[]⟩, .slice none 0 0] T (0, 0)) w g w.heap.size w1.heap.size s n p (.slice none 0 0) [] f w2 := by
 have h1 := hg1.size
 have h2 := hg2.size
 simp at h1 h2
 have ha := gr_trans (gr_al (gr_refl w g) _) hg1
 refine ⟨hP, ?_, ?_, OwnRow.nil _ _ _ _ _, gr_trans (gr_al ha _) hg2, hg, Nat.le_refl _, by omega, by omega⟩
 ·exact (hg2.block w1.heap.size (by simp) (by simp; omega)).trans (heap_alloc_new w1 _)
 ·refine (hg2.block w.heap.size (by simp; omega) (by simp; omega)).trans ((hao w1 _ _ (by omega)).trans ?_)
  exact (hg1.block w.heap.size (by simp) (by simp; omega)).trans (heap_alloc_new w _)
theorem TSt.done {T TP : TypeId} {ro : Obj} {w W : World} {g rb bt : Nat} {s : ByteArray} {n : List UInt8} {p : PSt} {v : Value} {xs : List Tm} {f : Nat} (h : TSt T TP ro w g rb bt s n p v xs f W) (hn : n.length ≤ 1000000) (a b : Value) :
  TermP T g w.heap.size s (f + 1) (.mk ⟨n.toArray⟩ xs) p TP w (.agg #[.string ⟨n.toArray⟩, v]) ((W.setCell ⟨rb, 0, none⟩ a).setCell ⟨rb, 1, none⟩ b) := by
 obtain ⟨l1, l2, l3, l4⟩ := h.lt
 have hk : ∀ c, c ≠ rb → ((W.setCell ⟨rb, 0, none⟩ a).setCell ⟨rb, 1, none⟩ b).heap[c]? = W.heap[c]? := fun c hc => (heap_setCell_other _ ⟨rb, 1, none⟩ c b (fun e => hc e)).trans (heap_setCell_other W ⟨rb, 0, none⟩ c a (fun e => hc e))
 refine ⟨_, _, rfl, ⟨_, rfl, by show n.toArray.size ≤ _; unfold maxLen; simp; omega, ?_⟩, ?_, gr_sc (gr_sc h.gr (.inr l2) _) (.inr l2) _⟩
 ·exact h.row.mono (fun c hc _ => hk c (by omega)) (fun c hc => by simp; omega)
   (fun S x c _ hS hx => TmOwn.mono f f x c (Nat.le_refl _) (fun d hd _ => hk d (by have := (hS d hd).1; omega)) (fun _ h => h) hx)
 ·exact (hk g (by omega)).trans h.at_
mutual
def Tm.wt : Tm → Nat | .mk n us => n.size + us.length + Tm.wts us
def Tm.wts : List Tm → Nat | [] => 0 | a :: us => a.wt + Tm.wts us
end
theorem Tm.wts_le (us : List Tm) {k : Nat} (h : k < us.length) : us[k].wt ≤ Tm.wts us := by
 induction us generalizing k with
 | nil => simp at h
 | cons a us ih =>
  cases k with
  | zero => simp [Tm.wts]
  | succ k => have := ih (k := k) (by simpa using h); simp only [List.getElem_cons_succ, Tm.wts]; omega
set_option maxHeartbeats 1600000 in
theorem eqTermS_of {B B' : Nat → Prop} (m : Nat) (ih : ∀ (t : Tm) (v0 v1 u0 u1 : Value) (w : World), TmAt B m w t [v0, v1] → TmAt B' m w t [u0, u1] →
   Calls Tryz.prog 122 #[.agg #[v0, v1], .agg #[u0, u1]] w fun e w' => e = .returned (.bool true) ∧ Below w.heap.size w w')
  (us : List Tm) (va ua : Value) (w : World) (h : ListAt B w 2 (TmAt B m w) va us) (h' : ListAt B' w 2 (TmAt B' m w) ua us) :
  Calls Tryz.prog 163 #[va, ua] w fun e w' => e = .returned (.bool true) ∧ Below w.heap.size w w' := by
 obtain ⟨p, c, rfl, hlen⟩ := h.form
 obtain ⟨p', c', rfl, -⟩ := h'.form
 unfold maxLen at hlen
 have H := Lib.hid h
 have H' := Lib.hid h'
 have IH := Lib.hid ih
 clear h h' ih
 go_enter Tryz.func163, Tryz.ntmps163
 go_wp2
 go_loopw [5] (fun i wr => ∃ k : Nat, k ≤ us.length ∧ i = .int .i64 k ∧ Below w.heap.size w wr) (fun i _ => us.length - (intOf i).toNat)
 case atStart => exact ⟨0, Nat.zero_le _, rfl, by exact bel⟩
 case round =>
  obtain ⟨k, hk, rfl, hb⟩ := hrel
  by_cases hlt : k < us.length
  ·obtain ⟨b, o, rfl, hB, x0, x1, hx0, hx1, hx⟩ := (H.out.mono (SameOn.below hb) (fun _ h => h) (fun x cs _ hx => TmAt.below hb hx)).at2 hlt
   obtain ⟨b', o', rfl, hB', y0, y1, hy0, hy1, hy⟩ := (H'.out.mono (SameOn.below hb) (fun _ h => h) (fun x cs _ hx => TmAt.below hb hx)).at2 hlt
   obtain ⟨a, ha⟩ : ∃ a, us[k] = a := ⟨_, rfl⟩
   rw [ha] at hx hy
   have HX := Lib.hid hx
   have HY := Lib.hid hy
   clear hx hy ha
   go_wp2
   refine wp_region_flowC wr.heap.size [(⟨b, o + k * 2, none⟩, x0), (⟨b, o + k * 2 + 1, none⟩, x1), (⟨b', o' + k * 2, none⟩, y0), (⟨b', o' + k * 2 + 1, none⟩, y1)] (by kernel_rfl) (by kernel_rfl) (by first | (intro _ hs; cases hs; done) | (simp only [List.forall_mem_cons]; go_simp)) fun C HC => ?_
   repeat (first | ((first | apply flow_free rfl | (apply flow_yes; (case hw => go_simp))); (intro L w' hun hrd hC; have ⟨hC, hb', hf'⟩ := flO HC hC; (try simp only [List.forall_mem_cons] at hf'); go_simp; first | exact ⟨flS HC hC, rfl⟩ | (rw [if_neg]; (exact ⟨flS HC hC, rfl⟩); omega) | (go_at_call 122; refine (IH.out a x0 x1 y0 y1 _ (HX.out.below hb') (HY.out.below hb')).mono ?_; rintro e w1 ⟨rfl, hb1⟩; exact ⟨rfl, flN HC hC (by first | (simp; done) | (simp; omega) | omega) hb1⟩)); go_simp) | (apply flow_noC HC; (case hw => (go_simp; try (intro hh; cases hh))); go_simp))
   refine flow_nil ?_
   intro L wz hL hz
   have ⟨_, hbz, hcz⟩ := flO HC hz
   try simp only [List.forall_mem_cons] at hcz
   go_wp2
   refine ⟨⟨k + 1, by omega, by go_num, Below.step hb hbz⟩, by simp [intOf]; omega⟩
  ·go_wp2
   go_ret
   exact ⟨rfl, hb⟩
set_option maxHeartbeats 1600000 in
theorem eqTerm_same {B B' : Nat → Prop} : ∀ (m : Nat) (t : Tm) (v0 v1 u0 u1 : Value) (w : World), TmAt B m w t [v0, v1] → TmAt B' m w t [u0, u1] →
   Calls Tryz.prog 122 #[.agg #[v0, v1], .agg #[u0, u1]] w fun e w' => e = .returned (.bool true) ∧ Below w.heap.size w w' := by
 intro m
 induction m with
 | zero => intro t v0 v1 u0 u1 w h; exact h.elim
 | succ m ih =>
  rintro ⟨s, us⟩ v0 v1 u0 u1 w ⟨va, hcs, hs, hl⟩ ⟨va', hcs', hs', hl'⟩
  simp only [List.cons.injEq, and_true] at hcs hcs'
  obtain ⟨rfl, rfl⟩ := hcs
  obtain ⟨rfl, rfl⟩ := hcs'
  have HS := Lib.hid (eqTermS_of m ih)
  have HL := Lib.hid hl
  have HL' := Lib.hid hl'
  obtain ⟨p, c, rfl, -⟩ := hl.form
  obtain ⟨p', c', rfl, -⟩ := hl'.form
  clear ih hl hl' hs hs'
  go_enter Tryz.func122, Tryz.ntmps122
  go_wp2_with fail
  refine (HS.out us _ _ _ (HL.out.mono (SameOn.below (by exact bel)) (fun _ h => h) (fun x cs _ hx => TmAt.below (by exact bel) hx)) (HL'.out.mono (SameOn.below (by exact bel)) (fun _ h => h) (fun x cs _ hx => TmAt.below (by exact bel) hx))).mono ?_
  rintro e w1 ⟨rfl, hb1⟩
  have ⟨cw1, fw1⟩ := bcell hb1
  have qw1 := hb1.size
  (try simp at qw1)
  (try have zw1w := bsz (show w.heap.size < w1.heap.size by omega))
  go_wp2
  go_ret
  exact ⟨rfl, by exact bel⟩
end Go.Proofs.YtabkdonplmlbcaaGreatDoor
