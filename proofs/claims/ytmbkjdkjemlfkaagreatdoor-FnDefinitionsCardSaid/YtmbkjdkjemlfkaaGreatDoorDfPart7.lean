import Derived.Laws.IdiomStrings
import Derived.Test.YtmbkjdkjemlfkaaGreatDoorDfPart6
namespace Go.Proofs.YtmbkjdkjemlfkaaGreatDoor
set_option maxRecDepth 100000
open Go.RowKit
def mkNm (s : ByteArray) (T : TypeId) (v : Value) : Obj := .cells #[.string s, v] T (0, 0)
theorem Tm.wts_snoc (us : List Tm) (a : Tm) : Tm.wts (us ++ [a]) = Tm.wts us + a.wt := by
  induction us with
  | nil => simp [Tm.wts]
  | cons b us ih => rw [List.cons_append, Tm.wts, Tm.wts, ih]; omega
theorem Tm.wts_take : ∀ (us : List Tm) (k : Nat), Tm.wts (us.take k) ≤ Tm.wts us
  | [], k => by simp
  | a :: us, 0 => by simp [Tm.wts]
  | a :: us, k + 1 => by have := Tm.wts_take us k; rw [List.take_succ_cons, Tm.wts, Tm.wts]; omega
def TmR (n : Nat) (S : Nat → Prop) (w : World) (t : Tm) (c : List Value) : Prop := TmOwn 26 n S w t c
theorem keepTmR (n : Nat) : KeepR (TmR n) := fun _ _ _ _ x cs hs hS h => TmOwn.mono n n x cs (Nat.le_refl _) hs hS h
theorem fa_own (n : Nat) (s1 s2 : ByteArray) (h1 : s1.size ≤ maxLen) (h2 : s2.size ≤ maxLen) (w : World) : TmR (n + 2) (fun b => b = w.heap.size) (w.alloc (.cells #[.string s2, .slice none 0 0] 26)) (.mk s1 [.mk s2 []]) [.string s1, .slice (some ⟨w.heap.size, 0, none⟩) 1 1] :=
  ⟨_, rfl, h1, OwnRow.one' (S := fun _ => False) rfl _ rfl ⟨_, rfl, h2, OwnRow.nil _ _ _ _ _⟩ (fun _ h => h.elim) (fun _ h => h.elim) rfl⟩
theorem NSt.gt {n Wt : Nat} {s : ByteArray} {X : Nat → Prop} {w W : World} {g m bt : Nat} {v : Value} {xs : List Tm} (h : NSt (TmR n) 26 2 (mkNm s 26) X w g m bt v xs W) (hs : s.size ≤ maxLen) (hw : s.size + xs.length + Tm.wts xs ≤ Wt) : GT (n + 1) Wt (fun b => w.heap.size ≤ b ∧ b < W.heap.size ∧ ¬ X b) W (.agg #[.string s, v]) :=
  ⟨.mk s xs, v, rfl, ⟨_, rfl, hs, h.row⟩, by rw [Tm.wt]; exact hw⟩
def WideO (g m R B : Nat) (w : World) (v : Value) (wr : World) : Prop :=
  ∃ (k : Nat) (u : Value) (xs : List Tm), k ≤ 4 ∧ v = .int .i64 k ∧ xs.length = k ∧ Tm.wts xs ≤ 17 * k ∧ NSt (TmR 5) 26 2 (mkNm ⟨#[103]⟩ 26) (fun b => b = R ∨ b = B) w g m B u xs wr ∧ wr.heap[R]? = some (.cells #[.string ⟨#[]⟩, .slice none 0 0] 26 (0, 0))
def WideI (g m : Nat) (w : World) (v : Value) (wr : World) : Prop :=
  ∃ (k : Nat) (u : Value) (xs : List Tm), k ≤ 4 ∧ v = .int .i64 k ∧ xs.length = k ∧ Tm.wts xs ≤ 3 * k ∧ NSt (TmR 4) 26 2 (mkNm ⟨#[104]⟩ 26) (fun b => b = w.heap.size) w g m w.heap.size u xs wr
set_option maxHeartbeats 3200000 in
theorem wide_any (g m : Nat) (w : World) (h : Cur w g m) (hm : m + 10 ≤ 1000000000) :
    Calls Tryz.prog 111 #[.pointer (some ⟨g, 0, none⟩)] w (StepO g m 4 (fun w' v => GT 10 100 (NewB w w') w' v) w) := by
  have hlt := h.lt
  have H := Lib.hid h
  have hne : w.heap.size ≠ g := by omega
  clear h
  go_enter Tryz.func111, Tryz.ntmps111
  go_wp2_with fail
  go_loopw [4] (WideO g m w.heap.size (w.heap.size + 1) w) (fun i _ => 4 - (intOf i).toNat)
  case atStart =>
    refine ⟨0, .slice none 0 0, [], by omega, rfl, rfl, by simp [Tm.wts], ?_, (hao _ _ _ (by simp)).trans (heap_alloc_new w _)⟩
    have := NSt.new (R := TmR 5) (eT := 26) (sz := 2) (α := Tm) (mk := mkNm ⟨#[103]⟩ 26) (X := fun b => b = w.heap.size ∨ b = w.heap.size + 1) (w := w) (g := g) (m := m) (w0 := w.alloc (.cells #[.string ⟨#[]⟩, .slice none 0 0] 26)) (H.out.al _) (gr_al (gr_refl w g) _) hlt ⟨.inr (by simp), fun b hb => by simp; omega⟩ _ _ rfl
    simpa using this
  case round =>
    obtain ⟨k, u, xs, hk, rfl, rfl, hwt, hN, hR⟩ := hrel
    obtain ⟨wo, hwo⟩ : ∃ wo, wo = wr := ⟨_, rfl⟩
    subst hwo
    have HN := Lib.hid hN
    have HX := Lib.hid (And.intro hwt hR)
    obtain ⟨p, c, rfl, -⟩ := hN.form
    have ⟨r0, r1, rf⟩ := row2_at hR
    have ⟨b0, b1, bf⟩ := row2_at hN.cell
    have zR := bsz (lt_of_block hR)
    have zB := bsz (lt_of_block hN.cell)
    have hgr := hN.gr.size
    clear hN hR hwt
    by_cases hk4 : xs.length < 4
    · have hk4' : (xs.length : Int) < 4 := by omega
      go_wp2_with fail
      go_loopw [6] (WideI g m wo) (fun i _ => 4 - (intOf i).toNat)
      case atStart =>
        refine ⟨0, .slice none 0 0, [], by omega, rfl, rfl, by simp [Tm.wts], ?_⟩
        exact NSt.new (α := Tm) (R := TmR 4) (X := fun b => b = wo.heap.size) (mk := mkNm ⟨#[104]⟩ 26) HN.out.cur (gr_refl _ _) (by omega) ⟨rfl, fun b hb => by omega⟩ _ _ rfl
      case round =>
        obtain ⟨j, u', ys, hj, rfl, rfl, hwt', hN'⟩ := hrel
        have HN' := Lib.hid hN'
        have HW' := Lib.hid hwt'
        obtain ⟨p', c', rfl, -⟩ := hN'.form
        have ⟨d0, d1, df⟩ := row2_at hN'.cell
        have zD := bsz (lt_of_block hN'.cell)
        have hgr' := hN'.gr.size
        have HT' := Lib.hid (And.intro (hN'.gr.block _ (lt_of_block HX.out.2) (by simp; omega)) (hN'.gr.block _ (lt_of_block HN.out.cell) (by simp; omega)))
        clear hN' hwt'
        by_cases hj4 : ys.length < 4
        · have hj4' : (ys.length : Int) < 4 := by omega
          obtain ⟨vals, hv⟩ := (HN'.out.below (keepTmR 4) ((Below.refl _ _).alloc (Nat.le_refl _) (.cells #[.string ⟨#[97]⟩, .slice none 0 0] 26))).own
          have HV := Lib.hid hv
          clear hv
          go_wp2_with (at_builtin; refine wpList_app1 rfl (.tmp 18) (.tmp 22) _ rfl 0 26 2 40 elemTmI _ _ vals rfl (wr.alloc (.cells #[.string ⟨#[97]⟩, .slice none 0 0] 26)) #[.string ⟨#[102]⟩, .slice (some ⟨wr.heap.size, 0, none⟩) 1 1] rfl _ (by simp) rfl HV.out rfl (by simp [Value.oneCell']) (by omega) (by unfold maxLen; omega) (Nat.zero_le _) ?_; intro v3 w3 hown3 hg3 hnr3 hlt3; obtain ⟨⟨q3, c3, rfl⟩, hk3⟩ := (HN'.out.below (keepTmR 4) ((Below.refl _ _).alloc (Nat.le_refl _) (.cells #[.string ⟨#[97]⟩, .slice none 0 0] 26))).three (Nat.succ_pos _) hown3 hg3; simp only [World.size_alloc] at hlt3; have ⟨d30, d31, d3f⟩ := row2_at ((hk3 wo.heap.size rfl).trans ((HN'.out.below (keepTmR 4) ((Below.refl _ _).alloc (Nat.le_refl _) (.cells #[.string ⟨#[97]⟩, .slice none 0 0] 26))).cell)); have zD3 := bsz (show wo.heap.size < w3.heap.size by omega); clear d0 d1 df)
          refine ⟨⟨ys.length + 1, .slice (some ⟨q3, 0, none⟩) (ys.length + 1) c3, ys ++ [.mk ⟨#[102]⟩ [.mk ⟨#[97]⟩ []]], by omega, by go_num, by simp, ?_, ?_⟩, by simp [intOf]; omega⟩
          · have := HW'.out
            have h3 : (Tm.mk ⟨#[102]⟩ [.mk ⟨#[97]⟩ []]).wt = 3 := rfl
            rw [Tm.wts_snoc, h3]; omega
          · exact NSt.app (keepTmR 4) (setsName _ _) HN'.out (gr_al (gr_refl _ _) _) (HN'.out.cur.al _) (fa_own 2 _ _ (by decide) (by decide) wr) (fun b hb => by simp; omega) rfl HV.out hown3 hg3 hnr3 (by omega)
        · obtain ⟨vals, hv⟩ := (HN.out.later (keepTmR 5) HN'.out.gr HN'.out.cur).own
          have HV := Lib.hid hv
          have hj4' : ¬ (ys.length : Int) < 4 := by omega
          obtain ⟨eR, eB⟩ := HT'.out
          have ⟨r0, r1, rf⟩ := row2_at (eR.trans HX.out.2)
          have ⟨b0, b1, bf⟩ := row2_at (eB.trans HN.out.cell)
          have zR := bsz (show w.heap.size < wr.heap.size by omega)
          have zB := bsz (show w.heap.size + 1 < wr.heap.size by omega)
          clear hv eR eB
          go_wp2_with (at_builtin; refine wpList_app1 rfl (.tmp 26) (.tmp 28) _ rfl 0 26 2 40 elemTmI _ _ vals rfl wr #[.string ⟨#[104]⟩, .slice p' ys.length c'] rfl _ (by simp) rfl HV.out rfl (by simp [Value.oneCell']) (by omega) (by unfold maxLen; omega) (Nat.zero_le _) ?_; intro v3 w3 hown3 hg3 hnr3 hlt3; obtain ⟨⟨q3, c3, rfl⟩, hk3⟩ := (HN.out.later (keepTmR 5) HN'.out.gr HN'.out.cur).three (Nat.succ_pos _) hown3 hg3; have ⟨d30, d31, d3f⟩ := row2_at ((hk3 (w.heap.size + 1) (.inr rfl)).trans (HN.out.later (keepTmR 5) HN'.out.gr HN'.out.cur).cell); have zD3 := bsz (show w.heap.size + 1 < w3.heap.size by omega); clear b0 b1 bf)
          refine ⟨⟨xs.length + 1, .slice (some ⟨q3, 0, none⟩) (xs.length + 1) c3, xs ++ [.mk ⟨#[104]⟩ ys], by omega, by go_num, by simp, ?_, ?_, ?_⟩, by simp [intOf]; omega⟩
          · have h1 := HX.out.1
            have h2 := HW'.out
            have h4 : (⟨#[104]⟩ : ByteArray).size = 1 := rfl
            rw [Tm.wts_snoc, Tm.wt, h4]; omega
          · exact NSt.app (keepTmR 5) (setsName _ _) HN.out HN'.out.gr HN'.out.cur (show TmR 5 (fun b => wo.heap.size ≤ b ∧ b < wr.heap.size ∧ ¬ b = wo.heap.size) wr (.mk ⟨#[104]⟩ ys) _ from ⟨_, rfl, by decide, HN'.out.row⟩) (fun b hb => ⟨hb.1, hb.2.1⟩) rfl HV.out hown3 hg3 hnr3 (by omega)
          · exact ((HN.out.later (keepTmR 5) HN'.out.gr HN'.out.cur).kept hg3 (.inl rfl) (by omega)).trans (HT'.out.1.trans HX.out.2)
    · have hk4' : ¬ (xs.length : Int) < 4 := by omega
      go_wp2_with fail
      refine (one_any g m 2 _ HN.out.cur (by omega) (by omega) (by omega)).mono ?_
      rintro e w1 ⟨_, rfl, ⟨y1, rfl⟩, hc1, hg1⟩
      have HC1 := Lib.hid hc1
      clear hc1
      have ⟨c1, f1⟩ := gcell hg1
      have hz1 := hg1.size
      (try simp at hz1)
      have hz0 := HN.out.gr.size
      have HN1 := Lib.hid (HN.out.later (keepTmR 5) hg1 HC1.out)
      have hR1 := (hg1.block _ (lt_of_block HX.out.2) (by simp; omega)).trans HX.out.2
      have HR1 := Lib.hid hR1
      have zR1 := bsz (show w.heap.size < w1.heap.size by omega)
      have zB1 := bsz (show w.heap.size + 1 < w1.heap.size by omega)
      have ⟨r10, r11, r1f⟩ := row2_at hR1
      have ⟨b10, b11, b1f⟩ := row2_at HN1.out.cell
      have HWT := Lib.hid HX.out.1
      have HK4 := Lib.hid hk4
      clear hg1 c1 f1 r0 r1 rf b0 b1 bf hR1 hk4'
      cases y1
      · go_wp2_with fail
        refine (one_any g (m + 2) 2 _ HN1.out.cur (by omega) (by omega) (by omega)).mono ?_
        rintro e w2 ⟨_, rfl, ⟨y2, rfl⟩, hc2, hg2⟩
        have HC2 := Lib.hid hc2
        clear hc2
        have ⟨c2, f2⟩ := gcell hg2
        have hz2 := hg2.size
        (try simp at hz2)
        have HN2 := Lib.hid (HN1.out.later (keepTmR 5) hg2 HC2.out)
        have hR2 := (hg2.block _ (lt_of_block HR1.out) (by simp; omega)).trans HR1.out
        have HR2 := Lib.hid hR2
        have zR2 := bsz (show w.heap.size < w2.heap.size by omega)
        have zB2 := bsz (show w.heap.size + 1 < w2.heap.size by omega)
        have ⟨r20, r21, r2f⟩ := row2_at hR2
        have ⟨b20, b21, b2f⟩ := row2_at HN2.out.cell
        clear hg2 c2 f2 r10 r11 r1f b10 b11 b1f hR2
        have h3 : ((xs.length : Int) == 3) = false := by simp; omega
        cases y2
        all_goals
          go_wp2_with fail
          refine bodyPost_ret (v := .agg #[.string ⟨#[103]⟩, .slice p xs.length c]) (by simp only [results, Tryz.results111]; go_simp) rfl ⟨_, rfl, (HN2.out.gt (Wt := 100) (by decide) (by have := HWT.out; have h4 : (⟨#[103]⟩ : ByteArray).size = 1 := rfl; omega)).mono (by omega) (Nat.le_refl _) (((SameOn.refl _ _).sc ?_ _).sc ?_ _) ?_, ?_, ?_⟩
          all_goals first
            | exact ((HC2.out.more (by omega) (by omega)).sc hlt _).sc hlt _
            | exact gr_sc (gr_sc HN2.out.gr (.inr (Nat.le_refl _)) _) (.inr (Nat.le_refl _)) _
            | (intro b hb e; simp at e; omega)
            | (intro b hb; unfold NewB; simp; omega)
      · have hcap := HN1.out.row.room
        have h3x : 3 ≤ xs.length := by omega
        have h30 : 0 < xs.length := by omega
        have h3i : (3 : Int) ≤ c := by omega
        have HN3 := Lib.hid (NSt.cut (k := 3) (keepTmR 5) (setsName _ _) HN1.out h3x h30)
        go_wp2_with fail
        refine (one_any g (m + 2) 2 _ HN3.out.cur (by omega) (by omega) (by omega)).mono ?_
        rintro e w2 ⟨_, rfl, ⟨y2, rfl⟩, hc2, hg2⟩
        have HC2 := Lib.hid hc2
        clear hc2
        have ⟨c2, f2⟩ := gcell hg2
        have hz2 := hg2.size
        (try simp at hz2)
        have HN2 := Lib.hid (HN3.out.later (keepTmR 5) hg2 HC2.out)
        have hR2 := (hg2.block w.heap.size (by simp; omega) (by simp; omega)).trans ((heap_setCell_other w1 ⟨w.heap.size + 1, 1, none⟩ w.heap.size _ (by simp)).trans HR1.out)
        have HR2 := Lib.hid hR2
        have zR2 := bsz (show w.heap.size < w2.heap.size by omega)
        have zB2 := bsz (show w.heap.size + 1 < w2.heap.size by omega)
        have ⟨r20, r21, r2f⟩ := row2_at hR2
        have ⟨b20, b21, b2f⟩ := row2_at HN2.out.cell
        have h5 := Tm.wts_take xs 3
        have HWT2 := Lib.hid (show Tm.wts (xs.take 3) ≤ 68 by have := HWT.out; omega)
        have HLT := Lib.hid (show (xs.take 3).length = 3 by rw [List.length_take]; omega)
        have hz2 := HN2.out.gr.size
        clear hg2 c2 f2 r10 r11 r1f b10 b11 b1f hR2 h5
        cases y2
        · go_wp2_with fail
          refine bodyPost_ret (v := .agg #[.string ⟨#[103]⟩, .slice p 3 c]) (by simp only [results, Tryz.results111]; go_simp) rfl ⟨_, rfl, (HN2.out.gt (Wt := 100) (by decide) (by have := HWT2.out; have := HLT.out; have h4 : (⟨#[103]⟩ : ByteArray).size = 1 := rfl; omega)).mono (by omega) (Nat.le_refl _) (((SameOn.refl _ _).sc ?_ _).sc ?_ _) ?_, ?_, ?_⟩
          all_goals first
            | exact ((HC2.out.more (by omega) (by omega)).sc hlt _).sc hlt _
            | exact ((HN2.out.cur.more (by omega) (by omega)).sc hlt _).sc hlt _
            | exact gr_sc (gr_sc HN2.out.gr (.inr (Nat.le_refl _)) _) (.inr (Nat.le_refl _)) _
            | (intro b hb e; simp at e; omega)
            | (intro b hb; unfold NewB; simp; omega)
        · obtain ⟨vals, hv⟩ := (HN2.out.below (keepTmR 5) ((Below.refl _ _).alloc (Nat.le_refl _) (.cells #[.string ⟨#[98]⟩, .slice none 0 0] 26))).own
          rw [HLT.out] at hv
          have HV := Lib.hid hv
          clear hv
          go_wp2_with (at_builtin; refine wpList_app1 rfl (.tmp 46) (.tmp 50) _ rfl 0 26 2 40 elemTmI _ 3 vals rfl (w2.alloc (.cells #[.string ⟨#[98]⟩, .slice none 0 0] 26)) #[.string ⟨#[102]⟩, .slice (some ⟨w2.heap.size, 0, none⟩) 1 1] rfl _ (by simp) rfl HV.out rfl (by simp [Value.oneCell']) (by omega) (by unfold maxLen; omega) (Nat.zero_le _) ?_; intro v3 w3 hown3 hg3 hnr3 hlt3; obtain ⟨⟨q3, c3, rfl⟩, hk3⟩ := (HN2.out.below (keepTmR 5) ((Below.refl _ _).alloc (Nat.le_refl _) (.cells #[.string ⟨#[98]⟩, .slice none 0 0] 26))).three (Nat.succ_pos _) hown3 hg3; simp only [World.size_alloc] at hlt3; have ⟨d30, d31, d3f⟩ := row2_at ((hk3 (w.heap.size + 1) (.inr rfl)).trans ((HN2.out.below (keepTmR 5) ((Below.refl _ _).alloc (Nat.le_refl _) (.cells #[.string ⟨#[98]⟩, .slice none 0 0] 26))).cell)); have ⟨e30, e31, e3f⟩ := row2_at ((hk3 w.heap.size (.inl rfl)).trans ((hao _ _ _ (lt_of_block HR2.out)).trans HR2.out)); have zD3 := bsz (show w.heap.size + 1 < w3.heap.size by omega); have zD4 := bsz (show w.heap.size < w3.heap.size by omega); clear b20 b21 b2f r20 r21 r2f)
          have HN4 := Lib.hid (NSt.app (keepTmR 5) (setsName _ _) HN2.out (gr_al (gr_refl _ _) _) (HN2.out.cur.al _) (fa_own 3 ⟨#[102]⟩ ⟨#[98]⟩ (by decide) (by decide) w2) (fun b hb => by simp; omega) rfl (vals := vals) (by rw [HLT.out]; exact HV.out) (by rw [HLT.out]; exact hown3) hg3 hnr3 (by rw [HLT.out]; omega))
          have hW4 : Tm.wts (xs.take 3 ++ [Tm.mk ⟨#[102]⟩ [.mk ⟨#[98]⟩ []]]) ≤ 71 := by
            have h3 : (Tm.mk ⟨#[102]⟩ [.mk ⟨#[98]⟩ []]).wt = 3 := rfl
            have := HWT2.out
            rw [Tm.wts_snoc, h3]; omega
          have hL4 : (xs.take 3 ++ [Tm.mk ⟨#[102]⟩ [.mk ⟨#[98]⟩ []]]).length = 4 := by rw [List.length_append, HLT.out]; rfl
          clear hown3 hg3 hnr3
          refine bodyPost_ret (v := .agg #[.string ⟨#[103]⟩, .slice (some ⟨q3, 0, none⟩) 4 c3]) (by simp only [results, Tryz.results111]; go_simp) rfl ⟨_, rfl, (HN4.out.gt (Wt := 100) (by decide) (by have h4 : (⟨#[103]⟩ : ByteArray).size = 1 := rfl; omega)).mono (by omega) (Nat.le_refl _) (((SameOn.refl _ _).sc ?_ _).sc ?_ _) ?_, ?_, ?_⟩
          all_goals first
            | exact ((HN4.out.cur.more (by omega) (by omega)).sc hlt _).sc hlt _
            | exact gr_sc (gr_sc HN4.out.gr (.inr (Nat.le_refl _)) _) (.inr (Nat.le_refl _)) _
            | (intro b hb e; simp at e; omega)
            | (intro b hb; unfold NewB; simp at hb ⊢; omega)
section
variable {P : Program}
theorem each_appn {w : World} {o : Oper} {a : Act} {E : Value → World → Prop} (s x : Operand) (t : TypeId) (ho : o.op = .call { callee := .builtin .append, args := #[s, x], argTypes := #[t, t] })
    (base : Nat) (e : TypeId) (size bytes : Nat) (hE : Elem P t e size bytes) (v : Value) (n k : Nat) (xs : List Value) (hs : a.eval s = v) (wr : World) (ce : Array Value) (hw : w = wr.alloc (.cells ce e)) (hx : a.eval x = .slice (some ⟨wr.heap.size, 0, none⟩) k k)
    (hown : wr.ownsRow base e size v n xs) (hcs : ce.size = k * size) (h1 : ∀ u ∈ ce.toList, u.oneCell' = true) (hbytes : (n + k) * bytes ≤ 140737488355328) (h63 : n + k ≤ maxLen) (hbase : base ≤ wr.heap.size)
    (h : ∀ v' w', (∀ b xs', wr.ownsRow b e size v n xs' → b ≤ wr.heap.size → w'.ownsRow b e size v' (n + k) (xs' ++ ce.toList)) → wr.grownBy w' v.ownBlock → NewRow v v' wr.heap.size → wr.heap.size < w'.heap.size → E v' w') : eachUpon P E ((execOp a.eval o).run P w) := by
  obtain ⟨ht, i, z, hi, hz, hsz, hby, hzs, hpos⟩ := hE
  subst hw
  have hnews : ∀ j u, ce.toList[j]? = some u → (wr.alloc (.cells ce e)).cell? ((⟨wr.heap.size, 0, none⟩ : Addr).add j) = some u := by
    intro j u hu
    have hb := heap_alloc_new wr (.cells ce e)
    have : ((⟨wr.heap.size, 0, none⟩ : Addr).add j) = ⟨wr.heap.size, j, none⟩ := by unfold Addr.add; split <;> simp_all
    rw [this, cell_of_row _ _ j ce e (0, 0) hb]
    simpa using hu
  have key := fun (b : Nat) (xs' : List Value) (hown : wr.ownsRow b e size v n xs') (hb : b ≤ wr.heap.size) => run_append_own_at (P := P) (wr.alloc (.cells ce e)) b t o.type e i z size bytes ht hi hz hsz hby hzs hpos v n xs' (hown.alloc _) ⟨wr.heap.size, 0, none⟩ k k ce.toList (by rw [Array.length_toList, hcs]) hnews h1 h63 hbytes (Nat.le_trans hb (by simp))
  obtain ⟨v', w', hrun, h2, h3, _, h5⟩ := key base xs hown hbase
  unfold execOp
  simp only [ho, resolve, invoke, builtin, Sem.run_bind, Sem.run_pure, Result.andThen_ok, List.map_toArray, List.map_cons, List.map_nil, hs, hx, hrun]
  refine h v' w' (fun b xs' hb hbb => ?_) ⟨h3.os, h3.tape, h3.output, Nat.le_trans (by simp) h3.size, fun k hk hne => (h3.block k (by simp; omega) hne).trans (Below.heap_alloc wr _ k hk)⟩ ?_ ?_
  · obtain ⟨v2, w2, hrun2, g2, _⟩ := key b xs' hb hbb
    rw [hrun] at hrun2
    injection hrun2 with e1 e2
    subst e1 e2
    exact g2
  · rcases h5 with h5 | h5
    · exact .inl h5
    · exact .inr ⟨_, h5, by simp⟩
  · have := h3.size
    simp at this; omega
end
theorem OwnRow.grow {α : Type} {S Sx S' : Nat → Prop} {w : World} {e : TypeId} {size : Nat} {R : (Nat → Prop) → α → List Value → Prop} {p : Option Addr} {c : Nat} {xs : List α} {x : α} {cs vals : List Value} (h : OwnRow S w e size R (.slice p xs.length c) xs) (hx : R Sx x cs) (hl : cs.length = size)
    {n : Nat} (hown : w.ownsRow 0 e size (.slice p n c) n vals) (hn : xs.length + 1 ≤ n) (hv : (vals.drop (xs.length * size)).take size = cs) (hSx : ∀ b, Sx b → ¬ S b) (hSlt : ∀ b, S b → b < w.heap.size) (hSxlt : ∀ b, Sx b → b < w.heap.size) (h1 : ∀ b, S b → S' b) (h2 : ∀ b, Sx b → S' b) : OwnRow S' w e size R (.slice p (xs.length + 1) c) (xs ++ [x]) := by
  have hob : (Value.slice p (xs.length + 1) c).ownBlock = (Value.slice p xs.length c).ownBlock := by cases p <;> rfl
  have hSb : ∀ g, (Value.slice p xs.length c).ownBlock = some g → S g := by obtain ⟨_, _, _, _, h, _⟩ := h; exact h
  refine h.snoc (Sx := Sx) (w' := w) hx hl (fun vs hvs => ?_) ⟨rfl, rfl, rfl, Nat.le_refl _, fun _ _ _ => rfl⟩ (.inl hob) (by have := own_len' hown; omega) hSx hSlt hSxlt h1 h2 (fun g hg => h1 _ (hSb _ (hob ▸ hg))) (fun _ _ _ _ h => h)
  have h5 := own_take hown hn (by omega)
  have h6 : xs.length * size + size ≤ n * size := by have := Nat.mul_le_mul_right size hn; rw [Nat.succ_mul] at this; exact this
  have h7 : vs = vals.take (xs.length * size) := by
    rcases Nat.eq_zero_or_pos xs.length with h0 | h0
    · have := hvs.1
      rw [h0, Nat.zero_mul] at this
      rw [h0, Nat.zero_mul, List.take_zero, List.eq_nil_of_length_eq_zero this]
    · exact own_unique hvs (own_take hown (by omega) (by omega))
  have h8 : vals.take ((xs.length + 1) * size) = vs ++ cs := by
    rw [h7, Nat.succ_mul, List.take_add, hv]
  rw [h8] at h5
  exact h5
theorem baseV9 (x0 x1 x2 x3 x4 x5 x6 x7 x8 : Option Value) (v : Value) (l : List (Option Value)) : baseV (x0 :: x1 :: x2 :: x3 :: x4 :: x5 :: x6 :: x7 :: x8 :: some v :: l) 9 = v := rfl
theorem baseV10 (x0 x1 x2 x3 x4 x5 x6 x7 x8 x9 : Option Value) (v : Value) (l : List (Option Value)) : baseV (x0 :: x1 :: x2 :: x3 :: x4 :: x5 :: x6 :: x7 :: x8 :: x9 :: some v :: l) 10 = v := rfl
theorem baseV11 (x0 x1 x2 x3 x4 x5 x6 x7 x8 x9 x10 : Option Value) (v : Value) (l : List (Option Value)) : baseV (x0 :: x1 :: x2 :: x3 :: x4 :: x5 :: x6 :: x7 :: x8 :: x9 :: x10 :: some v :: l) 11 = v := rfl
theorem baseV12 (x0 x1 x2 x3 x4 x5 x6 x7 x8 x9 x10 x11 : Option Value) (v : Value) (l : List (Option Value)) : baseV (x0 :: x1 :: x2 :: x3 :: x4 :: x5 :: x6 :: x7 :: x8 :: x9 :: x10 :: x11 :: some v :: l) 12 = v := rfl
theorem baseV13 (x0 x1 x2 x3 x4 x5 x6 x7 x8 x9 x10 x11 x12 : Option Value) (v : Value) (l : List (Option Value)) : baseV (x0 :: x1 :: x2 :: x3 :: x4 :: x5 :: x6 :: x7 :: x8 :: x9 :: x10 :: x11 :: x12 :: some v :: l) 13 = v := rfl
theorem baseV14 (x0 x1 x2 x3 x4 x5 x6 x7 x8 x9 x10 x11 x12 x13 : Option Value) (v : Value) (l : List (Option Value)) : baseV (x0 :: x1 :: x2 :: x3 :: x4 :: x5 :: x6 :: x7 :: x8 :: x9 :: x10 :: x11 :: x12 :: x13 :: some v :: l) 14 = v := rfl
theorem baseV15 (x0 x1 x2 x3 x4 x5 x6 x7 x8 x9 x10 x11 x12 x13 x14 : Option Value) (v : Value) (l : List (Option Value)) : baseV (x0 :: x1 :: x2 :: x3 :: x4 :: x5 :: x6 :: x7 :: x8 :: x9 :: x10 :: x11 :: x12 :: x13 :: x14 :: some v :: l) 15 = v := rfl
attribute [go_sem] baseV9 baseV10 baseV11 baseV12 baseV13 baseV14 baseV15
structure Kept (S : Nat → Prop) (w w' : World) : Prop where
  os : w'.os = w.os
  tape : w'.tape = w.tape
  output : w'.output = w.output
  size : w.heap.size ≤ w'.heap.size
  block : ∀ b, b < w.heap.size → ¬ S b → w'.heap[b]? = w.heap[b]?
theorem blk_lt {w : World} {b : Nat} {o : Obj} (h : w.heap[b]? = some o) : b < w.heap.size := by
  rcases Nat.lt_or_ge b w.heap.size with h' | h'
  · exact h'
  · rw [Array.getElem?_eq_none h'] at h; cases h
def Patch (cur cur' : Array Value) (o : Nat) (cs : List Value) : Prop := cur'.size = cur.size ∧ (∀ j, j < cs.length → cur'[o + j]? = cs[j]?) ∧ ∀ k, (k < o ∨ o + cs.length ≤ k) → cur'[k]? = cur[k]?
theorem Patch.refl {cur : Array Value} {o : Nat} {cs : List Value} (h : ∀ j, j < cs.length → cur[o + j]? = cs[j]?) : Patch cur cur o cs := ⟨rfl, h, fun _ _ => rfl⟩
theorem Patch.set {cur cur' : Array Value} {o : Nat} {cs : List Value} (h : Patch cur cur' o cs) {j : Nat} (hj : j < cs.length) (hb : o + cs.length ≤ cur.size) (v : Value) : Patch cur (cur'.setIfInBounds (o + j) v) o (cs.set j v) := by
  obtain ⟨h1, h2, h3⟩ := h
  refine ⟨by simpa using h1, fun i hi => ?_, fun k hk => ?_⟩
  · rw [List.length_set] at hi
    by_cases e : j = i
    · subst e
      rw [Array.getElem?_setIfInBounds_self_of_lt (by omega), List.getElem?_set_self hj]
    · rw [Array.getElem?_setIfInBounds_ne (by omega), List.getElem?_set_ne e, h2 i hi]
  · rw [List.length_set] at hk
    rw [Array.getElem?_setIfInBounds_ne (by omega), h3 k hk]
theorem OwnRow.elem {α : Type} {S : Nat → Prop} {w : World} {e : TypeId} {size : Nat} {R : (Nat → Prop) → α → List Value → Prop} {v : Value} {xs : List α} {i : Nat} {x : α} (h : OwnRow S w e size R v xs) (hi : xs[i]? = some x) :
    ∃ (g cap : Nat) (cs : List Value) (Si : Nat → Prop) (cur : Array Value), v = .slice (some ⟨g, 0, none⟩) xs.length cap ∧ S g ∧ w.heap[g]? = some (.cells cur e (0, 0)) ∧ cs.length = size ∧ i * size + size ≤ cur.size ∧ (∀ j, j < size → cur[i * size + j]? = cs[j]?) ∧ R Si x cs ∧ (∀ b, Si b → S b ∧ b ≠ g) ∧
      ∀ (w' : World) (x' : α) (cs' : List Value) (cur' : Array Value) (R' : (Nat → Prop) → α → List Value → Prop), cs'.length = size → w'.heap[g]? = some (.cells cur' e (0, 0)) → Patch cur cur' (i * size) cs' → R' Si x' cs' → (∀ T y c, (∀ b, T b → S b ∧ b ≠ g ∧ ¬ Si b) → R T y c → R' T y c) → OwnRow S w' e size R' v (xs.set i x') := by
  obtain ⟨hm, vals, Ss, h1, h2, h3, h4⟩ := h
  have hlt : i < xs.length := (List.getElem?_eq_some_iff.1 hi).1
  rcases h1.2 with ⟨rfl, h0⟩ | ⟨g, cap, cur, rfl, _, hh, hc1, hc2, hc3, hc4⟩
  · omega
  have h5 : (i + 1) * size ≤ xs.length * size := Nat.mul_le_mul_right _ hlt
  rw [Nat.succ_mul] at h5
  have h6 : xs.length * size ≤ cap * size := Nat.mul_le_mul_right _ hc1
  have hvl : vals.length = xs.length * size := h1.1
  have hcv : ∀ k, k < xs.length * size → cur[k]? = vals[k]? := fun k hk => by
    rw [← hc4, List.getElem?_take, if_pos hk]; simp
  refine ⟨g, cap, (vals.drop (i * size)).take size, Ss i, cur, rfl, h2 g rfl, hh, by rw [List.length_take, List.length_drop]; omega, by omega, fun j hj => ?_, (h3 i x hi).1, fun b hb => ⟨((h3 i x hi).2 b hb).1, fun e => ((h3 i x hi).2 b hb).2 (by rw [e]; rfl)⟩, ?_⟩
  · rw [hcv _ (by omega), List.getElem?_take, if_pos hj, List.getElem?_drop]
  · intro w' x' cs' cur' R' hl hh' hp hx' hR
    have hcur' : ∀ k, k < xs.length * size → (cur'.toList.take (xs.length * size))[k]? = cur'[k]? := fun k hk => by rw [List.getElem?_take, if_pos hk]; simp
    have e1 : cur'.toList.length = cap * size := (Array.length_toList (xs := cur')).trans (hp.1.trans hc3)
    have hlen' : (cur'.toList.take (xs.length * size)).length = (xs.set i x').length * size := by rw [List.length_take, e1, List.length_set]; omega
    refine ⟨by simpa using hm, cur'.toList.take (xs.length * size), Ss, ⟨hlen', .inr ⟨g, cap, cur', by rw [List.length_set], Nat.zero_le _, hh', by rw [List.length_set]; exact hc1, hc2, by rw [hp.1]; exact hc3, by rw [List.length_set]⟩⟩, h2, fun j y hy => ?_, fun j j' b hj hj' hne => h4 j j' b (by simpa using hj) (by simpa using hj') hne⟩
    have hj : j < xs.length := by have := (List.getElem?_eq_some_iff.1 hy).1; simpa using this
    have h7 : (j + 1) * size ≤ xs.length * size := Nat.mul_le_mul_right _ hj
    rw [Nat.succ_mul] at h7
    by_cases ej : i = j
    · subst ej
      rw [List.getElem?_set_self hlt] at hy
      obtain rfl : x' = y := Option.some.inj hy
      refine ⟨?_, (h3 i x hi).2⟩
      have : ((cur'.toList.take (xs.length * size)).drop (i * size)).take size = cs' := by
        apply List.ext_getElem?
        intro k
        rw [List.getElem?_take]
        split
        · rename_i hk
          rw [List.getElem?_drop, hcur' _ (by omega), hp.2.1 k (by omega)]
        · rw [List.getElem?_eq_none (by omega)]
      rw [this]; exact hx'
    · rw [List.getElem?_set_ne ej] at hy
      obtain ⟨k1, k2⟩ := h3 j y hy
      refine ⟨?_, k2⟩
      have : ((cur'.toList.take (xs.length * size)).drop (j * size)).take size = (vals.drop (j * size)).take size := by
        apply List.ext_getElem?
        intro k
        rw [List.getElem?_take, List.getElem?_take]
        split
        · rename_i hk
          have hside : j * size + k < i * size ∨ i * size + size ≤ j * size + k := by
            rcases Nat.lt_or_ge j i with hlt2 | hge
            · have h8 : (j + 1) * size ≤ i * size := Nat.mul_le_mul_right _ hlt2
              rw [Nat.succ_mul] at h8; omega
            · have h8 : (i + 1) * size ≤ j * size := Nat.mul_le_mul_right _ (by omega)
              rw [Nat.succ_mul] at h8; omega
          rw [List.getElem?_drop, List.getElem?_drop, hcur' _ (by omega), hp.2.2 _ (by omega), hcv _ (by omega)]
        · rfl
      rw [this]
      exact hR _ _ _ (fun b hb => ⟨(k2 b hb).1, fun e => (k2 b hb).2 (by rw [e]; rfl), fun e => h4 i j b hlt hj ej e hb⟩) k1
end Go.Proofs.YtmbkjdkjemlfkaaGreatDoor
