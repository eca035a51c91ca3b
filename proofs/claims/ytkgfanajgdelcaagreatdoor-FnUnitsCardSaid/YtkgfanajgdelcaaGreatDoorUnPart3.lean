import Derived.Laws.Bits64b
import Derived.Test.YtkgfanajgdelcaaGreatDoorUnPart2
namespace Go.Proofs.YtkgfanajgdelcaaGreatDoor
set_option maxRecDepth 100000
open Go.RowKit
inductive FormC : Fm → Prop
  | tru : FormC (opF 1 [])
  | fal : FormC (opF 2 [])
  | atm (a : Tm) : a.atom = true → FormC (atomOfF a)
  | neg (g : Fm) : g.form = true → FormC (opF 4 [g])
  | bin (op : Int) (g h : Fm) : (op = 5 ∨ op = 6 ∨ op = 7) → g.form = true → h.form = true → FormC (opF op [g, h])
  | qua (op : Int) (v : List UInt8) (g : Fm) : (op = 8 ∨ op = 9) → varB v = true → g.form = true → FormC (quantF op v g)
theorem ba_nil {v : ByteArray} (h : v.data.toList.isEmpty = true) : v = ⟨#[]⟩ := by
  apply ByteArray.ext; apply Array.ext'; simpa using h
theorem ba_eq (v : ByteArray) : (⟨v.data.toList.toArray⟩ : ByteArray) = v := by apply ByteArray.ext; simp
theorem tm_none {a : Tm} (h : a.none = true) : a = tm0 := by
  obtain ⟨n, us⟩ := a
  simp only [Tm.none, Bool.and_eq_true] at h
  have h1 : n = ⟨#[]⟩ := ba_nil h.1
  have h2 : us = [] := by simpa [Tm.us] using h.2
  rw [h1, h2]; rfl
theorem len_one {α : Type} {l : List α} (h : l.length = 1) : ∃ a, l = [a] := by
  match l, h with
  | [a], _ => exact ⟨a, rfl⟩
theorem len_two {α : Type} {l : List α} (h : l.length = 2) : ∃ a b, l = [a, b] := by
  match l, h with
  | [a, b], _ => exact ⟨a, b, rfl⟩
theorem form_cases {F : Fm} (h : F.form = true) : FormC F := by
  obtain ⟨op, a, v, ps⟩ := F
  rw [Fm.form, Bool.and_eq_true] at h
  obtain ⟨h1, h2⟩ := h
  simp only [Fm.form1, Fm.op, Fm.ps, Fm.v, Fm.a, Bool.and_eq_true, beq_iff_eq] at h1
  obtain ⟨⟨h3, h4⟩, h5⟩ := h1
  unfold arity at h3
  split at h3
  · rename_i ho
    have hp : ps = [] := List.length_eq_zero_iff.1 (Option.some.inj h3).symm
    subst hp
    have h4' : v.data.toList.isEmpty = true := by rcases ho with rfl | rfl | rfl <;> exact h4
    have hv := ba_nil h4'
    subst hv
    rcases ho with rfl | rfl | rfl
    · have h6 : a.none = true := h5
      rw [tm_none h6]; exact .tru
    · have h6 : a.none = true := h5
      rw [tm_none h6]; exact .fal
    · exact .atm a h5
  · split at h3
    · rename_i ho
      obtain ⟨g, rfl⟩ : ∃ g, ps = [g] := len_one (Option.some.inj h3).symm
      have hg : g.form = true := by simpa [Fm.forms] using h2
      have h5' : a.none = true := by rcases ho with rfl | rfl | rfl <;> exact h5
      rw [tm_none h5']
      rcases ho with rfl | ho
      · have h6 : v.data.toList.isEmpty = true := h4
        rw [ba_nil h6]; exact .neg g hg
      · have h4' : varB v.data.toList = true := by rcases ho with rfl | rfl <;> exact h4
        have := FormC.qua op v.data.toList g ho h4' hg
        rw [quantF, ba_eq] at this; exact this
    · split at h3
      · rename_i ho
        obtain ⟨g, g', rfl⟩ : ∃ g g', ps = [g, g'] := len_two (Option.some.inj h3).symm
        have hg : g.form = true ∧ g'.form = true := by simpa [Fm.forms] using h2
        have h5' : a.none = true := by rcases ho with rfl | rfl | rfl <;> exact h5
        have h4' : v.data.toList.isEmpty = true := by rcases ho with rfl | rfl | rfl <;> exact h4
        rw [tm_none h5', ba_nil h4']; exact .bin op g g' ho hg.1 hg.2
      · cases h3
theorem nodes_name {n : ByteArray} {us : List Tm} (h : (Tm.mk n us).nodes = true) : varB n.data.toList = true ∨ symB n.data.toList = true := by
  rw [Tm.nodes] at h
  split at h
  · exact .inl ‹_›
  · simp only [Bool.and_eq_true] at h; exact .inr h.1.1
inductive AtomC : Tm → Prop
  | eq (a b : Tm) : a.nodes = true → b.nodes = true → AtomC (eqTm a b)
  | pred (n : ByteArray) (us : List Tm) : symB n.data.toList = true → Tm.nodess us = true → (Tm.mk n us).nodes = true → AtomC (.mk n us)
theorem atom_cases {t : Tm} (h : t.atom = true) : AtomC t := by
  obtain ⟨n, us⟩ := t
  rw [Tm.atom] at h
  split at h
  · rename_i hq
    simp only [Bool.and_eq_true, decide_eq_true_eq] at h
    have hus : us.length = 2 := h.1.1
    obtain ⟨a, b, rfl⟩ := len_two hus
    have hn : n = ⟨#[61]⟩ := by
      apply ByteArray.ext; apply Array.ext'
      simpa [isEq, Tm.n] using hq
    subst hn
    have this : Tm.nodess [a, b] = true := h.2
    simp only [Tm.nodess, Bool.and_eq_true, Bool.and_true] at this
    exact .eq a b this.1 this.2
  · simp only [Bool.and_eq_true, Tm.good, Tm.n] at h
    have hs := h.1
    have hd := h.2.2
    refine .pred n us hs ?_ hd
    exact (Tm.nodes_mk hd).2
theorem fmt_split {t : Tm} (h : t.nodes = true) (R : List UInt8) : ∃ n X, (varB n = true ∨ symB n = true) ∧ t.fmt ++ R = n ++ X ∧ ((∃ Y, X = 40 :: Y) ∨ X = R) := by
  obtain ⟨n, us⟩ := t
  have h1 := Tm.nodes_mk h
  rw [Tm.fmt_mk (word_not61 h1.1)]
  split
  · exact ⟨_, R, nodes_name h, rfl, .inr rfl⟩
  · exact ⟨_, 40 :: (joinB [44] (Tm.fmtL us) ++ ([41] ++ R)), nodes_name h, by simp [List.append_assoc], .inl ⟨_, rfl⟩⟩
theorem pTake_no {L t T : List UInt8} {k : Nat} (h : L.drop k = T) (hp : t.isPrefixOf T = false) : pTake L t ⟨k, false⟩ = false := by simp [pTake, h, hp]
def inB (n a b : Int) : Bool := decide (a ≤ n) && decide (n ≤ b)
theorem within_any (n a b : Int) (w : World) :
    Calls Tryz.prog 130 #[.int .i64 n, .int .i64 a, .int .i64 b] w fun e w' => e = .returned (.bool (inB n a b)) ∧ w = w' := by
  by_cases h1 : a ≤ n <;> by_cases h2 : n ≤ b
  all_goals
    go_enter Tryz.func130, Tryz.ntmps130
    go_wp2
    go_ret
    exact ⟨ret_bool (by simp [inB, h1, h2]), rfl⟩
theorem l1In_any (n a b : Int) (w : World) :
    Calls Tryz.prog 136 #[.int .i64 n, .int .i64 a, .int .i64 b] w fun e w' => e = .returned (.bool (inB n a b)) ∧ w = w' := by
  by_cases h1 : a ≤ n <;> by_cases h2 : n ≤ b
  all_goals
    go_enter Tryz.func136, Tryz.ntmps136
    go_wp2
    go_ret
    exact ⟨ret_bool (by simp [inB, h1, h2]), rfl⟩
theorem isLower_any (c : UInt8) (w : World) : Calls Tryz.prog 128 #[.int .u8 (c.toNat : Int)] w fun e w' => e = .returned (.bool (loC c)) ∧ w = w' := by
  go_enter Tryz.func128, Tryz.ntmps128
  go_wp2
  all_goals go_ret
  all_goals go_light
  all_goals refine ⟨ret_bool ?_, rfl⟩
  all_goals rw [Bool.eq_iff_iff]
  all_goals simp only [loC, decide_eq_true_eq, Bool.and_eq_true, false_iff, Bool.false_eq_true, not_and]
  all_goals omega
theorem isUpper_any (c : UInt8) (w : World) : Calls Tryz.prog 158 #[.int .u8 (c.toNat : Int)] w fun e w' => e = .returned (.bool (upC c)) ∧ w = w' := by
  go_enter Tryz.func158, Tryz.ntmps158
  go_wp2
  all_goals go_ret
  all_goals go_light
  all_goals refine ⟨ret_bool ?_, rfl⟩
  all_goals rw [Bool.eq_iff_iff]
  all_goals simp only [upC, decide_eq_true_eq, Bool.and_eq_true, false_iff, Bool.false_eq_true, not_and]
  all_goals omega
theorem isDigit_any (c : UInt8) (w : World) : Calls Tryz.prog 129 #[.int .u8 (c.toNat : Int)] w fun e w' => e = .returned (.bool (diC c)) ∧ w = w' := by
  go_enter Tryz.func129, Tryz.ntmps129
  go_wp2
  all_goals go_ret
  all_goals go_light
  all_goals refine ⟨ret_bool ?_, rfl⟩
  all_goals rw [Bool.eq_iff_iff]
  all_goals simp only [diC, decide_eq_true_eq, Bool.and_eq_true, false_iff, Bool.false_eq_true, not_and]
  all_goals omega
theorem l2Small_any (c : UInt8) (w : World) : Calls Tryz.prog 137 #[.int .u8 (c.toNat : Int)] w fun e w' => e = .returned (.bool (smC c)) ∧ w = w' := by
  go_enter Tryz.func137, Tryz.ntmps137
  go_wp2
  all_goals go_ret
  all_goals go_light
  all_goals refine ⟨ret_bool ?_, rfl⟩
  all_goals rw [Bool.eq_iff_iff]
  all_goals simp only [loC, diC, smC, decide_eq_true_eq, Bool.and_eq_true, Bool.or_eq_true, true_iff, false_iff, Bool.false_eq_true, not_and, not_or]
  all_goals omega
theorem headTail_take (p q : UInt8 → Bool) (s : ByteArray) (k : Nat) (h : k < s.size) : headTail p q (s.data.toList.take (k + 1)) = (headTail p q (s.data.toList.take k) && (if k = 0 then p s[k] else q s[k])) := by
  rw [take_snoc s k h, headTail_snoc]
  by_cases hk : k = 0
  · subst hk; simp
  · rw [if_neg hk, if_neg]
    have hl : (s.data.toList.take k).length = k := by rw [List.length_take, ← size_list]; omega
    rw [List.isEmpty_iff]
    intro e; rw [e] at hl; simp at hl; omega
theorem headTail_no (p q : UInt8 → Bool) (s : ByteArray) (k : Nat) (h : k < s.size) (h2 : (if k = 0 then p s[k] else q s[k]) = false) : headTail p q s.data.toList = false := by
  have e : s.data.toList = s.data.toList.take (k + 1) ++ s.data.toList.drop (k + 1) := (List.take_append_drop _ _).symm
  have h3 := headTail_take p q s k h
  rw [h2, Bool.and_false] at h3
  rw [e]
  generalize s.data.toList.take (k + 1) = a at *
  cases a with
  | nil => simp [headTail] at h3
  | cons x a =>
    simp only [headTail, List.cons_append, List.all_append] at h3 ⊢
    rw [← Bool.and_assoc, h3, Bool.false_and]
set_option maxHeartbeats 800000 in
theorem isVariable_any (s : ByteArray) (w : World) (hs : s.size ≤ maxLen) :
    Calls Tryz.prog 119 #[.string s] w fun e w' => e = .returned (.bool (varB s.data.toList)) ∧ w = w' := by
  unfold maxLen at hs
  have HV := Lib.hid (show varB s.data.toList = (inB (s.size : Int) 1 4 && headTail upC smC s.data.toList) by
    unfold varB inB; rw [← size_list]
    congr 1
    rw [Bool.eq_iff_iff]; simp; omega)
  go_enter Tryz.func119, Tryz.ntmps119
  go_wp2
  go_loop [6] (fun i => ∃ k : Nat, k ≤ s.size ∧ i = .int .i64 k ∧ headTail upC smC (s.data.toList.take k) = true) (fun i => s.size - (intOf i).toNat)
  case atStart => exact ⟨0, Nat.zero_le _, rfl, rfl⟩
  case round =>
    obtain ⟨k, hk, rfl, hp⟩ := hrel
    have HP := Lib.hid hp; clear hp
    by_cases hlt : k < s.size
    · have HT := Lib.hid (headTail_take upC smC s k hlt)
      have HN := Lib.hid (headTail_no upC smC s k hlt)
      by_cases hk0 : k = 0
      · subst hk0
        cases hU : upC s[0]
        all_goals
          go_wp2_with (first | (go_at_call 158; refine (isUpper_any _ _).mono ?_; rintro e w' ⟨rfl, rfl⟩) | (go_at_call 128; refine (isLower_any _ _).mono ?_; rintro e w' ⟨rfl, rfl⟩) | (go_at_call 129; refine (isDigit_any _ _).mono ?_; rintro e w' ⟨rfl, rfl⟩))
        · go_ret
          exact ⟨ret_bool (by rw [HV.out, HN.out (by simpa using hU)]; simp), rfl⟩
        · refine ⟨⟨1, by omega, by go_num, ?_⟩, by simp [intOf]; omega⟩
          rw [HT.out, HP.out]; simpa using hU
      · have hk1 : 0 < (k : Int) := by omega
        have hk2 : ((k : Int) == 0) = false := by simp; omega
        cases hL : loC s[k] <;> cases hD : diC s[k]
        all_goals
          have HLD := Lib.hid (And.intro hL hD)
          go_wp2_with (first | (go_at_call 158; refine (isUpper_any _ _).mono ?_; rintro e w' ⟨rfl, rfl⟩) | (go_at_call 128; refine (isLower_any _ _).mono ?_; rintro e w' ⟨rfl, rfl⟩) | (go_at_call 129; refine (isDigit_any _ _).mono ?_; rintro e w' ⟨rfl, rfl⟩))
        · go_ret
          exact ⟨ret_bool (by rw [HV.out, HN.out (by rw [if_neg hk0, smC, HLD.out.1, HLD.out.2]; rfl)]; simp), rfl⟩
        all_goals
          refine ⟨⟨k + 1, by omega, by go_num, ?_⟩, by simp [intOf]; omega⟩
          rw [HT.out, HP.out, if_neg hk0, smC, HLD.out.1, HLD.out.2]; rfl
    · go_wp2_with (first | (go_at_call 130; refine (within_any _ _ _ _).mono ?_; rintro e w' ⟨rfl, rfl⟩))
      go_ret
      exact ⟨ret_bool (by have := HP.out; rw [take_all _ _ (by omega)] at this; rw [HV.out, this]; simp), rfl⟩
def keyS : List ByteArray := keyW.map fun l => ⟨l.toArray⟩
theorem key_contains (x : ByteArray) : Lib.containsS (keyS.take 8) x = keyW.contains x.data.toList := by
  rw [Bool.eq_iff_iff, Lib.containsS_iff, List.contains_iff_mem, show keyS.take 8 = keyS from rfl, keyS, List.mem_map]
  constructor
  · rintro ⟨l, h, rfl⟩; exact h
  · intro h; exact ⟨_, h, rfl⟩
theorem key_cells (w : World) (t : TypeId) (j : Nat) (hj : j < keyS.length) :
    (w.alloc (.cells #[.string ⟨#[116, 114, 117, 101]⟩, .string ⟨#[102, 97, 108, 115, 101]⟩, .string ⟨#[116, 114, 117, 116, 104]⟩, .string ⟨#[98, 111, 116, 104]⟩, .string ⟨#[101, 105, 116, 104, 101, 114]⟩, .string ⟨#[105, 102]⟩, .string ⟨#[97, 108, 108]⟩, .string ⟨#[115, 111, 109, 101]⟩] t)).cell? ⟨w.heap.size, 0 + j, none⟩ = some (.string (keyS.getD j ByteArray.empty)) := by
  have hj8 : j < 8 := hj
  rw [Nat.zero_add, World.cell?_alloc_new]
  match j, hj8 with
  | 0, _ => rfl
  | 1, _ => rfl
  | 2, _ => rfl
  | 3, _ => rfl
  | 4, _ => rfl
  | 5, _ => rfl
  | 6, _ => rfl
  | 7, _ => rfl
theorem reserved_any (w : World) : Calls Tryz.prog 131 #[] w fun e w' => e = .returned (.slice (some ⟨w.heap.size, 0, none⟩) 8 8) ∧ w.alloc (.cells #[.string ⟨#[116, 114, 117, 101]⟩, .string ⟨#[102, 97, 108, 115, 101]⟩, .string ⟨#[116, 114, 117, 116, 104]⟩, .string ⟨#[98, 111, 116, 104]⟩, .string ⟨#[101, 105, 116, 104, 101, 114]⟩, .string ⟨#[105, 102]⟩, .string ⟨#[97, 108, 108]⟩, .string ⟨#[115, 111, 109, 101]⟩] 9) = w' := by
  go_enter Tryz.func131, Tryz.ntmps131
  go_wp2
  go_ret
  exact ⟨rfl, rfl⟩
set_option maxHeartbeats 1600000 in
theorem isSymbol_any (s : ByteArray) (w : World) (hs : s.size ≤ maxLen) :
    Calls Tryz.prog 71 #[.string s] w fun e w' => e = .returned (.bool (symB s.data.toList)) ∧ Below w.heap.size w w' := by
  unfold maxLen at hs
  have HV := Lib.hid (show symB s.data.toList = (inB (s.size : Int) 1 6 && headTail loC unC s.data.toList && !keyW.contains s.data.toList) by
    unfold symB inB; rw [← size_list]
    congr 2
    rw [Bool.eq_iff_iff]; simp; omega)
  go_enter Tryz.func71, Tryz.ntmps71
  go_wp2
  go_loop [6] (fun i => ∃ k : Nat, k ≤ s.size ∧ i = .int .i64 k ∧ headTail loC unC (s.data.toList.take k) = true) (fun i => s.size - (intOf i).toNat)
  case atStart => exact ⟨0, Nat.zero_le _, rfl, rfl⟩
  case round =>
    obtain ⟨k, hk, rfl, hp⟩ := hrel
    have HP := Lib.hid hp; clear hp
    by_cases hlt : k < s.size
    · have HT := Lib.hid (headTail_take loC unC s k hlt)
      have HN := Lib.hid (headTail_no loC unC s k hlt)
      by_cases hk0 : k = 0
      · subst hk0
        cases hL : loC s[0]
        all_goals
          have HL := Lib.hid hL
          go_wp2_with (first | (go_at_call 128; refine (isLower_any _ _).mono ?_; rintro e w' ⟨rfl, rfl⟩) | (go_at_call 129; refine (isDigit_any _ _).mono ?_; rintro e w' ⟨rfl, rfl⟩))
        · go_ret
          exact ⟨ret_bool (by rw [HV.out, HN.out (by simpa using HL.out)]; simp), Below.refl _ _⟩
        · refine ⟨⟨1, by omega, by go_num, ?_⟩, by simp [intOf]; omega⟩
          rw [HT.out, HP.out]; simpa using HL.out
      · have hk1 : 0 < (k : Int) := by omega
        have hk2 : ((k : Int) == 0) = false := by simp; omega
        have HU := Lib.hid (show unC s[k] = ((loC s[k] || diC s[k]) || (s[k] == 95)) from rfl)
        by_cases h9 : s[k] = 95
        · have H9 := Lib.hid h9
          have h91 : ((s[k].toNat : Int) != 95) = false := by rw [h9]; rfl
          have h92 : ((s[k].toNat : Int) == 95) = true := by rw [h9]; rfl
          clear h9
          cases hL : loC s[k] <;> cases hD : diC s[k]
          all_goals
            have HLD := Lib.hid (And.intro hL hD)
            go_wp2_with (first | (go_at_call 128; refine (isLower_any _ _).mono ?_; rintro e w' ⟨rfl, rfl⟩) | (go_at_call 129; refine (isDigit_any _ _).mono ?_; rintro e w' ⟨rfl, rfl⟩))
            refine ⟨⟨k + 1, by omega, by go_num, ?_⟩, by simp [intOf]; omega⟩
            rw [HT.out, HP.out, if_neg hk0, HU.out, HLD.out.1, HLD.out.2, H9.out]; rfl
        · have H9 := Lib.hid (show (s[k] == 95) = false by simpa using h9)
          have h9n : ¬ (s[k].toNat : Int) = 95 := fun e => h9 (UInt8.toNat_inj.1 (show s[k].toNat = 95 by omega))
          have h91 : ((s[k].toNat : Int) != 95) = true := by simpa using h9n
          have h92 : ((s[k].toNat : Int) == 95) = false := by simpa using h9n
          clear h9 h9n
          cases hL : loC s[k] <;> cases hD : diC s[k]
          all_goals
            have HLD := Lib.hid (And.intro hL hD)
            go_wp2_with (first | (go_at_call 128; refine (isLower_any _ _).mono ?_; rintro e w' ⟨rfl, rfl⟩) | (go_at_call 129; refine (isDigit_any _ _).mono ?_; rintro e w' ⟨rfl, rfl⟩))
          · go_ret
            exact ⟨ret_bool (by rw [HV.out, HN.out (by rw [if_neg hk0, HU.out, HLD.out.1, HLD.out.2, H9.out]; rfl)]; simp), Below.refl _ _⟩
          all_goals
            refine ⟨⟨k + 1, by omega, by go_num, ?_⟩, by simp [intOf]; omega⟩
            rw [HT.out, HP.out, if_neg hk0, HU.out, HLD.out.1, HLD.out.2]; rfl
    · have HF := Lib.hid (show headTail loC unC s.data.toList = true by have := HP.out; rwa [take_all _ _ (by omega)] at this)
      cases hB : inB (s.size : Int) 1 6
      all_goals
        have HB := Lib.hid hB
        go_wp2_with (first | (go_at_call 130; refine (within_any _ _ _ _).mono ?_; rintro e w' ⟨rfl, rfl⟩) | (go_at_call 131; refine (reserved_any _).mono ?_; rintro e w' ⟨rfl, rfl⟩) | (go_at_call 39; refine (Tryz.slices_Contains_string w.heap.size 0 8 8 keyS s _ (by decide) (by decide) (key_cells w _)).mono ?_; rintro e w' ⟨rfl, rfl⟩))
        go_ret
      · exact ⟨ret_bool (by rw [HV.out, HB.out]; rfl), by exact bel⟩
      · exact ⟨ret_bool (by rw [HV.out, HB.out, HF.out, key_contains]; rfl), by exact bel⟩
/-! Worlds that differ in one block alone. -/
section
variable {w w1 w2 : World} {g : Nat}
theorem gr_refl (w : World) (g : Nat) : w.grownBy w (some g) := ⟨rfl, rfl, rfl, Nat.le_refl _, fun _ _ _ => rfl⟩
theorem gr_trans (h : w.grownBy w1 (some g)) (h2 : w1.grownBy w2 (some g)) : w.grownBy w2 (some g) :=
  ⟨h2.os.trans h.os, h2.tape.trans h.tape, h2.output.trans h.output, Nat.le_trans h.size h2.size, fun k hk hne => (h2.block k (Nat.lt_of_lt_of_le hk h.size) hne).trans (h.block k hk hne)⟩
theorem gr_below (h : w.grownBy w1 (some g)) (hb : Below w1.heap.size w1 w2) : w.grownBy w2 (some g) :=
  gr_trans h ⟨hb.os, hb.tape, hb.output, hb.size, fun k hk _ => hb.block k hk⟩
theorem gr_al (h : w.grownBy w1 (some g)) (o : Obj) : w.grownBy (w1.alloc o) (some g) := gr_below h ((Below.refl _ _).alloc (Nat.le_refl _) o)
theorem gr_dr (h : w.grownBy w1 (some g)) : w.grownBy w1.drew (some g) := gr_below h ((Below.refl _ _).drew)
theorem gr_sc (h : w.grownBy w1 (some g)) {p : Addr} (hp : p.block = g ∨ w.heap.size ≤ p.block) (u : Value) : w.grownBy (w1.setCell p u) (some g) := by
  refine ⟨h.os, h.tape, h.output, by simpa using h.size, fun k hk hne => ?_⟩
  refine (heap_setCell_other w1 p k u (fun e => ?_)).trans (h.block k hk hne)
  rcases hp with hp | hp
  · exact hne (by rw [← hp, e])
  · omega
theorem gr_to_below {B : Nat} (h : w.grownBy w1 (some g)) (hB : B ≤ g) (hBw : B ≤ w.heap.size) : Below B w w1 :=
  ⟨h.os, h.tape, h.output, h.size, fun k hk => h.block k (by omega) (by simp; omega)⟩
theorem gcell (h : w.grownBy w1 (some g)) : (∀ b o, b < w.heap.size → b ≠ g → w1.cell? ⟨b, o, none⟩ = w.cell? ⟨b, o, none⟩) ∧ (∀ b o, b < w.heap.size → b ≠ g → w1.frozen? ⟨b, o, none⟩ = w.frozen? ⟨b, o, none⟩) :=
  ⟨fun b o hb hne => World.cell?_of_block (h.block b hb (by simpa using hne)), fun b o hb hne => World.frozen?_of_block (h.block b hb (by simpa using hne))⟩
end
def CodeIs (w : World) (g : Nat) (v : Value) : Prop := ∃ code : List UInt8, code.length ≤ 1000000 ∧ ListAt (fun b => b < g) w 1 (fun x cs => cs = [.int .u8 (x.toNat : Int)]) v code
theorem CodeIs.grown {w w1 : World} {g : Nat} {v : Value} (h : CodeIs w g v) (hg : w.grownBy w1 (some g)) : CodeIs w1 g v := by
  obtain ⟨code, h1, h2⟩ := h
  exact ⟨code, h1, h2.mono (fun b hb hlt => hg.block b hlt (by simp; omega)) (fun _ h => h) (fun _ _ _ h => h)⟩
def Cur (w : World) (g m : Nat) : Prop :=
  ∃ (v : Value) (a : Nat) (s : Int), w.heap[g]? = some (.cells #[v, .int .i64 a, .int .u64 s] 72 (0, 0)) ∧ a ≤ m ∧ m ≤ 1000000000 ∧ 0 ≤ s ∧ s ≤ 18446744073709551615 ∧ CodeIs w g v
theorem Cur.lt {w : World} {g m : Nat} (h : Cur w g m) : g < w.heap.size := by
  obtain ⟨v, a, s, h, _⟩ := h
  rcases Nat.lt_or_ge g w.heap.size with h' | h'
  · exact h'
  · rw [Array.getElem?_eq_none h'] at h; cases h
theorem Cur.below {w w1 : World} {g m : Nat} (h : Cur w g m) (hb : Below w.heap.size w w1) : Cur w1 g m := by
  have hlt := h.lt
  obtain ⟨v, a, s, h1, h2, h3, h4, h5, h6⟩ := h
  exact ⟨v, a, s, (hb.block g hlt).trans h1, h2, h3, h4, h5, h6.grown ⟨hb.os, hb.tape, hb.output, hb.size, fun k hk _ => hb.block k hk⟩⟩
theorem Cur.more {w : World} {g m n : Nat} (h : Cur w g m) (hn : m ≤ n) (hm : n ≤ 1000000000) : Cur w g n := by
  obtain ⟨v, a, s, h1, h2, h3, h4⟩ := h
  exact ⟨v, a, s, h1, Nat.le_trans h2 hn, hm, h4⟩
def Step (g m k : Nat) (p : Value → Prop) (w : World) (e : Ending) (w' : World) : Prop :=
  ∃ v, e = .returned v ∧ p v ∧ Cur w' g (m + k) ∧ w.grownBy w' (some g)
def IsIn (lo hi : Int) (v : Value) : Prop := ∃ r : Int, v = .int .i64 r ∧ lo ≤ r ∧ r ≤ hi
theorem cells3_cell {w : World} {g : Nat} {x y z : Value} {t : TypeId} (h : w.heap[g]? = some (.cells #[x, y, z] t (0, 0))) :
    w.cell? ⟨g, 0, none⟩ = some x ∧ w.cell? ⟨g, 1, none⟩ = some y ∧ w.cell? ⟨g, 2, none⟩ = some z ∧ (∀ j, w.frozen? ⟨g, j, none⟩ = false) := by
  refine ⟨?_, ?_, ?_, fun j => frozen_of_row w g j _ _ h⟩
  · rw [cell_of_row w g 0 _ _ (0, 0) h]; rfl
  · rw [cell_of_row w g 1 _ _ (0, 0) h]; rfl
  · rw [cell_of_row w g 2 _ _ (0, 0) h]; rfl
theorem u64_bd (n : Int) : 0 ≤ IntKind.u64.wrap n ∧ IntKind.u64.wrap n ≤ 18446744073709551615 := by
  rw [IntKind.wrap_u64]; omega
theorem and255 (x : Int) (h0 : 0 ≤ x) (h1 : x ≤ 18446744073709551615) : 0 ≤ wrap64 (bits .and .u64 (x / 1099511627776) 255) ∧ wrap64 (bits .and .u64 (x / 1099511627776) 255) ≤ 255 := by
  have hq0 : 0 ≤ x / 1099511627776 := by omega
  have hq1 : x / 1099511627776 ≤ 18446744073709551615 := by omega
  generalize x / 1099511627776 = q at *
  obtain ⟨a, rfl⟩ := Int.eq_ofNat_of_zero_le hq0
  have h := bits_and_u64_nat a 255 (by omega) (by omega)
  rw [show ((255 : Nat) : Int) = 255 from rfl] at h
  rw [h]
  have hle : a &&& 255 ≤ 255 := Nat.and_le_right
  rw [IntWalk.wrap64_in _ (by omega)]; omega
theorem Cur.stepped {w' : World} {g m a : Nat} {v : Value} {s : Int} (hb : w'.heap[g]? = some (.cells #[v, .int .i64 ((a : Int) + 1), .int .u64 s] 72 (0, 0))) (h1 : a ≤ m) (hm : m + 1 ≤ 1000000000) (h2 : 0 ≤ s ∧ s ≤ 18446744073709551615) (h3 : CodeIs w' g v) : Cur w' g (m + 1) :=
  ⟨v, a + 1, s, by simpa using hb, by omega, hm, h2.1, h2.2, h3⟩
theorem block3_set {w : World} {g : Nat} {x y z y' z' : Value} {t : TypeId} (h : w.heap[g]? = some (.cells #[x, y, z] t (0, 0))) :
    ((w.setCell ⟨g, 1, none⟩ y').setCell ⟨g, 2, none⟩ z').heap[g]? = some (.cells #[x, y', z'] t (0, 0)) := by
  have h1 := heap_setCell_same w g 1 #[x, y, z] t y' h
  have h2 := heap_setCell_same _ g 2 _ t z' h1
  simpa using h2
theorem next_end {g m a : Nat} {w y1 wz : World} {v : Value} {s s' r : Int} (hlt : g < w.heap.size) (hb : w.heap[g]? = some (.cells #[v, .int .i64 a, .int .u64 s] 72 (0, 0))) (h1 : a ≤ m) (hm : m + 1 ≤ 1000000000) (hc : CodeIs w g v)
    (hb1 : Below w.heap.size w y1) (hb2 : Below y1.heap.size ((y1.setCell ⟨g, 1, none⟩ (.int .i64 ((a : Int) + 1))).setCell ⟨g, 2, none⟩ (.int .u64 s')) wz) (hs : 0 ≤ s' ∧ s' ≤ 18446744073709551615) (hr : 0 ≤ r ∧ r ≤ 255) :
    Step g m 1 (IsIn 0 255) w (.returned (.int .i64 r)) wz := by
  have hg : w.grownBy wz (some g) := gr_below (gr_sc (gr_sc (gr_below (gr_refl w g) hb1) (.inl rfl) _) (.inl rfl) _) (by simpa using hb2)
  have hlt1 := hb1.size
  exact ⟨_, rfl, ⟨r, rfl, hr.1, hr.2⟩, Cur.stepped (w' := wz) ((hb2.block g (by omega)).trans (block3_set ((hb1.block g hlt).trans hb))) h1 hm hs (hc.grown hg), hg⟩
set_option maxHeartbeats 1600000 in
theorem next_any (g m : Nat) (w : World) (h : Cur w g m) (hm : m + 1 ≤ 1000000000) : Calls Tryz.prog 161 #[.pointer (some ⟨g, 0, none⟩)] w (Step g m 1 (IsIn 0 255) w) := by
  have hlt := h.lt
  obtain ⟨v, a, s, h1, h2, _, h4, h5, h6⟩ := h
  obtain ⟨hc0, hc1, hc2, hfr⟩ := cells3_cell h1
  have H1 := Lib.hid h1
  have H6 := Lib.hid h6
  clear h1
  obtain ⟨code, hlen, hl⟩ := h6
  obtain ⟨p, cap, rfl, -⟩ := hl.form
  have HL := Lib.hid hl
  clear hl
  by_cases ha : a < code.length
  · obtain ⟨b, o, rfl, hne, x0, hx, hx0⟩ := HL.out.at1 ha
    obtain ⟨x, hxx⟩ : ∃ x, code[a] = x := ⟨_, rfl⟩
    rw [hxx] at hx0
    simp only [List.cons.injEq, and_true] at hx0
    subst hx0
    clear hxx
    have hx256 := x.toNat_lt
    have hwx := wrap64_byte x
    have hix : IntKind.i64.wrap (x.toNat : Int) = x.toNat := IntWalk.i64_in _ (by omega)
    go_enter Tryz.func161, Tryz.ntmps161
    go_wp2
    obtain ⟨C, HC0⟩ := class_of (InF w.heap.size _ [(⟨g, 0, none⟩, .slice (some ⟨b, o, none⟩) code.length cap), (⟨g, 1, none⟩, .int .i64 a), (⟨g, 2, none⟩, .int .u64 s)] [] [])
    have HC := Lib.hid HC0
    clear HC0
    refine wp_region_flow (C := C) (by kernel_rfl) (by kernel_rfl) (fun L hL => (HC.out _ _).2 (InF.start (by first | (intro _ hs; cases hs; done) | (simp only [List.forall_mem_cons]; go_simp)) (by first | (intro _ hs; cases hs; done) | (simp only [List.forall_mem_cons]; go_simp)) (by first | (intro _ hs; cases hs; done) | (simp only [List.forall_mem_cons]; go_simp)) (by first | (intro _ hs; cases hs; done) | (simp only [List.forall_mem_cons]; go_simp)) L hL)) ?_
    repeat (first | ((first | apply flow_free rfl | (apply flow_yes; (case hw => go_simp))); (intro L w' hun hrd hC; have hC := (HC.out _ _).1 hC; have hb' := hC.below; have hf' := hC.cell; (try simp only [List.forall_mem_cons] at hf'); go_simp; first | exact ⟨(HC.out _ _).2 (hC.skip _ (by rfl)), rfl⟩ | (rw [if_neg]; (exact ⟨(HC.out _ _).2 (hC.skip _ (by rfl)), rfl⟩); omega) | fail); go_simp) | (apply flow_no; (case hw => (go_simp; try (intro hh; cases hh))); (intro L w' _ _ hC; exact (HC.out _ _).2 (((HC.out _ _).1 hC).skip _ (by rfl))); go_simp))
    refine flow_nil ?_
    intro L wz hL hz
    have hz := (HC.out _ _).1 hz
    have hbz := hz.below
    have hcz := hz.cell
    try simp only [List.forall_mem_cons] at hcz
    have hdz := hz.done
    try simp only [List.forall_mem_cons] at hdz
    (try have hwz : Below w.heap.size w wz := by first | exact Below.trans (by (repeat (first | with_reducible (first | exact bR _ _ | assumption | refine bA ?_ _ | refine bS ?_ (by first | exact Nat.le_refl _ | (simp; done) | (simp; omega)) _) | assumption | exact bR _ _ | refine bD ?_ | refine bN ?_ _ | refine bT ?_ (by assumption)))) hbz | ((repeat (first | with_reducible (first | exact bR _ _ | assumption | refine bA ?_ _ | refine bS ?_ (by first | exact Nat.le_refl _ | (simp; done) | (simp; omega)) _) | assumption | exact bR _ _ | refine bD ?_ | refine bN ?_ _ | refine bT ?_ (by assumption))); done))
    have ⟨cz, fz⟩ := bcell hbz
    have hgz : g < wz.heap.size := Nat.lt_of_lt_of_le hlt hbz.size
    have hxz := (hbz.cell (World.block_lt_of_cell? w _ hx)).trans hx
    have hb1 := hbz
    obtain ⟨y0, hy0⟩ : ∃ y, y = wz := ⟨_, rfl⟩
    subst hy0
    go_wp2
    obtain ⟨C, HC0⟩ := class_of (InF y0.heap.size _ [(⟨g, 0, none⟩, .slice (some ⟨b, o, none⟩) code.length cap), (⟨g, 1, none⟩, .int .i64 a), (⟨g, 2, none⟩, .int .u64 s), (⟨b, o + a, none⟩, .int .u8 (x.toNat : Int))] [] [])
    have HC := Lib.hid HC0
    clear HC0
    refine wp_region_flow (C := C) (by kernel_rfl) (by kernel_rfl) (fun L hL => (HC.out _ _).2 (InF.start (by first | (intro _ hs; cases hs; done) | (simp only [List.forall_mem_cons]; go_simp)) (by first | (intro _ hs; cases hs; done) | (simp only [List.forall_mem_cons]; go_simp)) (by first | (intro _ hs; cases hs; done) | (simp only [List.forall_mem_cons]; go_simp)) (by first | (intro _ hs; cases hs; done) | (simp only [List.forall_mem_cons]; go_simp)) L hL)) ?_
    repeat (first | ((first | apply flow_free rfl | (apply flow_yes; (case hw => go_simp))); (intro L w' hun hrd hC; have hC := (HC.out _ _).1 hC; have hb' := hC.below; have hf' := hC.cell; (try simp only [List.forall_mem_cons] at hf'); go_simp; first | exact ⟨(HC.out _ _).2 (hC.skip _ (by rfl)), rfl⟩ | (rw [if_neg]; (exact ⟨(HC.out _ _).2 (hC.skip _ (by rfl)), rfl⟩); omega) | fail); go_simp) | (apply flow_no; (case hw => (go_simp; try (intro hh; cases hh))); (intro L w' _ _ hC; exact (HC.out _ _).2 (((HC.out _ _).1 hC).skip _ (by rfl))); go_simp))
    refine flow_nil ?_
    intro L wz hL hz
    have hz := (HC.out _ _).1 hz
    have hbz := hz.below
    have hcz := hz.cell
    try simp only [List.forall_mem_cons] at hcz
    have hdz := hz.done
    try simp only [List.forall_mem_cons] at hdz
    (try have hwz : Below w.heap.size w wz := by first | exact Below.trans (by (repeat (first | with_reducible (first | exact bR _ _ | assumption | refine bA ?_ _ | refine bS ?_ (by first | exact Nat.le_refl _ | (simp; done) | (simp; omega)) _) | assumption | exact bR _ _ | refine bD ?_ | refine bN ?_ _ | refine bT ?_ (by assumption)))) hbz | ((repeat (first | with_reducible (first | exact bR _ _ | assumption | refine bA ?_ _ | refine bS ?_ (by first | exact Nat.le_refl _ | (simp; done) | (simp; omega)) _) | assumption | exact bR _ _ | refine bD ?_ | refine bN ?_ _ | refine bT ?_ (by assumption))); done))
    have ⟨cz2, fz2⟩ := bcell hbz
    have hb1 := Below.step hb1 hbz
    have hgz2 : g < wz.heap.size := Nat.lt_of_lt_of_le hlt hb1.size
    obtain ⟨y1, hy1⟩ : ∃ y, y = wz := ⟨_, rfl⟩
    subst hy1
    go_wp2
    obtain ⟨C, HC0⟩ := class_of (InF y1.heap.size _ [(⟨g, 0, none⟩, .slice (some ⟨b, o, none⟩) code.length cap), (⟨g, 1, none⟩, .int .i64 (a + 1)), (⟨g, 2, none⟩, .int .u64 (IntKind.u64.wrap (IntKind.u64.wrap (IntKind.u64.wrap (s * 6364136223846793005) + x.toNat) + 892892)))] [] [])
    have HC := Lib.hid HC0
    clear HC0
    refine wp_region_flow (C := C) (by kernel_rfl) (by kernel_rfl) (fun L hL => (HC.out _ _).2 (InF.start (by first | (intro _ hs; cases hs; done) | (simp only [List.forall_mem_cons]; go_simp)) (by first | (intro _ hs; cases hs; done) | (simp only [List.forall_mem_cons]; go_simp)) (by first | (intro _ hs; cases hs; done) | (simp only [List.forall_mem_cons]; go_simp)) (by first | (intro _ hs; cases hs; done) | (simp only [List.forall_mem_cons]; go_simp)) L hL)) ?_
    repeat (first | ((first | apply flow_free rfl | (apply flow_yes; (case hw => go_simp))); (intro L w' hun hrd hC; have hC := (HC.out _ _).1 hC; have hb' := hC.below; have hf' := hC.cell; (try simp only [List.forall_mem_cons] at hf'); go_simp; first | exact ⟨(HC.out _ _).2 (hC.skip _ (by rfl)), rfl⟩ | (rw [if_neg]; (exact ⟨(HC.out _ _).2 (hC.skip _ (by rfl)), rfl⟩); omega) | fail); go_simp) | (apply flow_no; (case hw => (go_simp; try (intro hh; cases hh))); (intro L w' _ _ hC; exact (HC.out _ _).2 (((HC.out _ _).1 hC).skip _ (by rfl))); go_simp))
    refine flow_nil ?_
    intro L wz hL hz
    have hz := (HC.out _ _).1 hz
    have hbz := hz.below
    have hcz := hz.cell
    try simp only [List.forall_mem_cons] at hcz
    have hdz := hz.done
    try simp only [List.forall_mem_cons] at hdz
    (try have hwz : Below w.heap.size w wz := by first | exact Below.trans (by (repeat (first | with_reducible (first | exact bR _ _ | assumption | refine bA ?_ _ | refine bS ?_ (by first | exact Nat.le_refl _ | (simp; done) | (simp; omega)) _) | assumption | exact bR _ _ | refine bD ?_ | refine bN ?_ _ | refine bT ?_ (by assumption)))) hbz | ((repeat (first | with_reducible (first | exact bR _ _ | assumption | refine bA ?_ _ | refine bS ?_ (by first | exact Nat.le_refl _ | (simp; done) | (simp; omega)) _) | assumption | exact bR _ _ | refine bD ?_ | refine bN ?_ _ | refine bT ?_ (by assumption))); done))
    go_wp2
    go_ret
    exact next_end hlt H1.out h2 hm H6.out hb1 hbz (u64_bd _) (by omega)
  · have ha1 : ¬ (a : Int) < code.length := by omega
    have ha2 : ¬ (a : Int) + 1 ≤ code.length := by omega
    go_enter Tryz.func161, Tryz.ntmps161
    go_wp2
    obtain ⟨C, HC0⟩ := class_of (InF w.heap.size _ [(⟨g, 0, none⟩, .slice p code.length cap), (⟨g, 1, none⟩, .int .i64 a), (⟨g, 2, none⟩, .int .u64 s)] [] [])
    have HC := Lib.hid HC0
    clear HC0
    refine wp_region_flow (C := C) (by kernel_rfl) (by kernel_rfl) (fun L hL => (HC.out _ _).2 (InF.start (by first | (intro _ hs; cases hs; done) | (simp only [List.forall_mem_cons]; go_simp)) (by first | (intro _ hs; cases hs; done) | (simp only [List.forall_mem_cons]; go_simp)) (by first | (intro _ hs; cases hs; done) | (simp only [List.forall_mem_cons]; go_simp)) (by first | (intro _ hs; cases hs; done) | (simp only [List.forall_mem_cons]; go_simp)) L hL)) ?_
    repeat (first | ((first | apply flow_free rfl | (apply flow_yes; (case hw => go_simp))); (intro L w' hun hrd hC; have hC := (HC.out _ _).1 hC; have hb' := hC.below; have hf' := hC.cell; (try simp only [List.forall_mem_cons] at hf'); go_simp; first | exact ⟨(HC.out _ _).2 (hC.skip _ (by rfl)), rfl⟩ | (rw [if_neg]; (exact ⟨(HC.out _ _).2 (hC.skip _ (by rfl)), rfl⟩); omega) | fail); go_simp) | (apply flow_no; (case hw => (go_simp; try (intro hh; cases hh))); (intro L w' _ _ hC; exact (HC.out _ _).2 (((HC.out _ _).1 hC).skip _ (by rfl))); go_simp))
    refine flow_nil ?_
    intro L wz hL hz
    have hz := (HC.out _ _).1 hz
    have hbz := hz.below
    have hcz := hz.cell
    try simp only [List.forall_mem_cons] at hcz
    have hdz := hz.done
    try simp only [List.forall_mem_cons] at hdz
    (try have hwz : Below w.heap.size w wz := by first | exact Below.trans (by (repeat (first | with_reducible (first | exact bR _ _ | assumption | refine bA ?_ _ | refine bS ?_ (by first | exact Nat.le_refl _ | (simp; done) | (simp; omega)) _) | assumption | exact bR _ _ | refine bD ?_ | refine bN ?_ _ | refine bT ?_ (by assumption)))) hbz | ((repeat (first | with_reducible (first | exact bR _ _ | assumption | refine bA ?_ _ | refine bS ?_ (by first | exact Nat.le_refl _ | (simp; done) | (simp; omega)) _) | assumption | exact bR _ _ | refine bD ?_ | refine bN ?_ _ | refine bT ?_ (by assumption))); done))
    have ⟨cz, fz⟩ := bcell hbz
    have hb1 := hbz
    obtain ⟨y1, hy1⟩ : ∃ y, y = wz := ⟨_, rfl⟩
    subst hy1
    go_wp2
    obtain ⟨C, HC0⟩ := class_of (InF y1.heap.size _ [(⟨g, 0, none⟩, .slice p code.length cap), (⟨g, 1, none⟩, .int .i64 (a + 1)), (⟨g, 2, none⟩, .int .u64 (IntKind.u64.wrap (IntKind.u64.wrap (IntKind.u64.wrap (s * 6364136223846793005)) + 892892)))] [] [])
    have HC := Lib.hid HC0
    clear HC0
    refine wp_region_flow (C := C) (by kernel_rfl) (by kernel_rfl) (fun L hL => (HC.out _ _).2 (InF.start (by first | (intro _ hs; cases hs; done) | (simp only [List.forall_mem_cons]; go_simp)) (by first | (intro _ hs; cases hs; done) | (simp only [List.forall_mem_cons]; go_simp)) (by first | (intro _ hs; cases hs; done) | (simp only [List.forall_mem_cons]; go_simp)) (by first | (intro _ hs; cases hs; done) | (simp only [List.forall_mem_cons]; go_simp)) L hL)) ?_
    repeat (first | ((first | apply flow_free rfl | (apply flow_yes; (case hw => go_simp))); (intro L w' hun hrd hC; have hC := (HC.out _ _).1 hC; have hb' := hC.below; have hf' := hC.cell; (try simp only [List.forall_mem_cons] at hf'); go_simp; first | exact ⟨(HC.out _ _).2 (hC.skip _ (by rfl)), rfl⟩ | (rw [if_neg]; (exact ⟨(HC.out _ _).2 (hC.skip _ (by rfl)), rfl⟩); omega) | fail); go_simp) | (apply flow_no; (case hw => (go_simp; try (intro hh; cases hh))); (intro L w' _ _ hC; exact (HC.out _ _).2 (((HC.out _ _).1 hC).skip _ (by rfl))); go_simp))
    refine flow_nil ?_
    intro L wz hL hz
    have hz := (HC.out _ _).1 hz
    have hbz := hz.below
    have hcz := hz.cell
    try simp only [List.forall_mem_cons] at hcz
    have hdz := hz.done
    try simp only [List.forall_mem_cons] at hdz
    (try have hwz : Below w.heap.size w wz := by first | exact Below.trans (by (repeat (first | with_reducible (first | exact bR _ _ | assumption | refine bA ?_ _ | refine bS ?_ (by first | exact Nat.le_refl _ | (simp; done) | (simp; omega)) _) | assumption | exact bR _ _ | refine bD ?_ | refine bN ?_ _ | refine bT ?_ (by assumption)))) hbz | ((repeat (first | with_reducible (first | exact bR _ _ | assumption | refine bA ?_ _ | refine bS ?_ (by first | exact Nat.le_refl _ | (simp; done) | (simp; omega)) _) | assumption | exact bR _ _ | refine bD ?_ | refine bN ?_ _ | refine bT ?_ (by assumption))); done))
    go_wp2
    go_ret
    exact next_end hlt H1.out h2 hm H6.out hb1 hbz (u64_bd _) (and255 _ (u64_bd _).1 (u64_bd _).2)
set_option maxHeartbeats 1600000 in
theorem pick_any (g m : Nat) (n : Int) (w : World) (h : Cur w g m) (hm : m + 2 ≤ 1000000000) (h1 : 1 ≤ n) (h2 : n ≤ 1000000000) : Calls Tryz.prog 124 #[.pointer (some ⟨g, 0, none⟩), .int .i64 n] w (Step g m 2 (IsIn 0 (n - 1)) w) := by
  have H := Lib.hid h
  clear h
  by_cases ha : n ≤ 1
  · go_enter Tryz.func124, Tryz.ntmps124
    go_wp2
    go_ret
    exact ⟨_, rfl, ⟨0, rfl, by omega, by omega⟩, H.out.more (by omega) (by omega), gr_refl _ _⟩
  · by_cases hb : 200 < n
    · go_enter Tryz.func124, Tryz.ntmps124
      go_wp2_with fail
      refine (next_any g m _ H.out (by omega)).mono ?_
      rintro e w1 ⟨_, rfl, ⟨r1, rfl, hr1, hs1⟩, hc1, hg1⟩
      have HC1 := Lib.hid hc1
      clear hc1
      go_wp2_with fail
      refine (next_any g (m + 1) _ HC1.out (by omega)).mono ?_
      rintro e w2 ⟨_, rfl, ⟨r2, rfl, hr2, hs2⟩, hc2, hg2⟩
      have HC2 := Lib.hid hc2
      clear hc2
      go_wp2_with fail
      go_ret
      refine ⟨_, rfl, ⟨_, rfl, ?_, ?_⟩, HC2.out, gr_trans hg1 hg2⟩
      · exact Int.emod_nonneg _ (by omega)
      · have := Int.emod_lt_of_pos (r1 * 256 + r2) (show 0 < n by omega); omega
    · go_enter Tryz.func124, Tryz.ntmps124
      go_wp2_with fail
      refine (next_any g m _ H.out (by omega)).mono ?_
      rintro e w1 ⟨_, rfl, ⟨r1, rfl, hr1, hs1⟩, hc1, hg1⟩
      have HC1 := Lib.hid hc1
      clear hc1
      go_wp2_with fail
      go_ret
      refine ⟨_, rfl, ⟨_, rfl, ?_, ?_⟩, HC1.out.more (by omega) (by omega), hg1⟩
      · exact Int.emod_nonneg _ (by omega)
      · have := Int.emod_lt_of_pos r1 (show 0 < n by omega); omega
def IsBool (v : Value) : Prop := ∃ b, v = .bool b
theorem one_any (g m : Nat) (n : Int) (w : World) (h : Cur w g m) (hm : m + 2 ≤ 1000000000) (h1 : 1 ≤ n) (h2 : n ≤ 1000000000) : Calls Tryz.prog 65 #[.pointer (some ⟨g, 0, none⟩), .int .i64 n] w (Step g m 2 IsBool w) := by
  have H := Lib.hid h
  clear h
  go_enter Tryz.func65, Tryz.ntmps65
  go_wp2_with fail
  refine (pick_any g m n _ H.out hm h1 h2).mono ?_
  rintro e w1 ⟨_, rfl, ⟨r1, rfl, hr1, hs1⟩, hc1, hg1⟩
  have HC1 := Lib.hid hc1
  clear hc1
  go_wp2_with fail
  go_ret
  exact ⟨_, rfl, ⟨_, rfl⟩, HC1.out, hg1⟩
def IsStr (k : Nat) (v : Value) : Prop := ∃ s : ByteArray, v = .string s ∧ s.size ≤ k
theorem of_any (g m b c k : Nat) (cs : Array Value) (t : TypeId) (fr : Nat × Nat) (w : World) (h : Cur w g m) (hm : m + 2 ≤ 1000000000) (hb : w.heap[b]? = some (.cells cs t fr)) (hbg : b ≠ g) (h0 : 0 < cs.size) (h1 : cs.size ≤ 1000000000) (hs : ∀ v ∈ cs, IsStr k v) :
    Calls Tryz.prog 70 #[.pointer (some ⟨g, 0, none⟩), .slice (some ⟨b, 0, none⟩) cs.size c] w (Step g m 2 (IsStr k) w) := by
  have H := Lib.hid h
  have HB := Lib.hid hb
  have HS := Lib.hid hs
  clear h hb hs
  go_enter Tryz.func70, Tryz.ntmps70
  go_wp2_with fail
  refine (pick_any g m _ _ H.out hm (by omega) (by omega)).mono ?_
  rintro e w1 ⟨_, rfl, ⟨r1, rfl, hr1, hs1⟩, hc1, hg1⟩
  obtain ⟨j, rfl⟩ := Int.eq_ofNat_of_zero_le hr1
  have hj : j < cs.size := by omega
  have hblt := lt_of_block HB.out
  obtain ⟨s, hv, hsz⟩ := HS.out cs[j] (Array.getElem_mem hj)
  have hcell : w1.cell? ⟨b, j, none⟩ = some (.string s) := by
    rw [((gcell hg1).1 b j hblt hbg), cell_of_row w b j cs t fr HB.out, ← hv]; exact Array.getElem?_eq_getElem hj
  have HC1 := Lib.hid hc1
  clear hc1 hv
  go_wp2_with fail
  go_ret
  exact ⟨_, rfl, ⟨_, rfl, hsz⟩, HC1.out, hg1⟩
end Go.Proofs.YtkgfanajgdelcaaGreatDoor
