import Derived.Test.YtkgfanajgdelcaaGreatDoorUnPart26
namespace Go.Proofs.YtkgfanajgdelcaaGreatDoor
set_option maxRecDepth 100000
open Go.RowKit
theorem insG_stop {α : Type} {lt : α → α → Bool} (x : α) : ∀ (P : List α) (j : Nat), (∀ y ∈ P.take j, lt y x = true) → (P.length ≤ j ∨ ∃ h : j < P.length, lt P[j] x = false) → insG lt P x = P.take j ++ x :: P.drop j
  | [], j, _, _ => by simp [insG]
  | p :: P, 0, _, h2 => by
    rcases h2 with h2 | ⟨_, h2⟩
    · simp at h2
    · simp only [List.getElem_cons_zero] at h2
      simp [insG, h2]
  | p :: P, j + 1, h1, h2 => by
    have hp := h1 p (by simp)
    have ih := insG_stop x P j (fun y hy => h1 y (by rw [List.take_succ_cons]; exact List.mem_cons_of_mem _ hy)) (by
      rcases h2 with h2 | ⟨h3, h2⟩
      · exact .inl (by simpa using h2)
      · exact .inr ⟨by simpa using h3, by simpa using h2⟩)
    rw [insG] at ih
    rw [insG, List.takeWhile_cons, List.dropWhile_cons, hp]
    simp only [if_true, List.cons_append, List.take_succ_cons, List.drop_succ_cons]
    rw [ih]
theorem strW_take (l : List ByteArray) (k : Nat) : strW (l.take k) = (strW l).take k := by simp [strW, List.map_take]
theorem strW_drop (l : List ByteArray) (k : Nat) : strW (l.drop k) = (strW l).drop k := by simp [strW, List.map_drop]
theorem strW_cell (l : List ByteArray) : ∀ u ∈ strW l, u.oneCell' = true := by
  intro u hu
  rw [strW, List.mem_map] at hu
  obtain ⟨s, -, rfl⟩ := hu
  rfl
theorem strW_app (a b : List ByteArray) : strW (a ++ b) = strW a ++ strW b := by simp [strW]
theorem strW_cons (a : ByteArray) (b : List ByteArray) : strW (a :: b) = Value.string a :: strW b := rfl
theorem srcS_head {w : World} {base : Nat} {e : TypeId} {g c k : Nat} {l : List ByteArray} (h : w.ownsRow base e 1 (.slice (some ⟨g, 0, none⟩) l.length c) l.length (strW l)) (hk : k ≤ l.length) (c' : Nat) : SrcIs w 1 (.slice (some ⟨g, 0, none⟩) k c') k (strW (l.take k)) := by
  have := src_head h hk c'
  rw [Nat.mul_one] at this
  rw [strW_take]; exact this
theorem srcS_tail' {w w' : World} {base : Nat} {e : TypeId} {g c k m : Nat} {l : List ByteArray} (h : w.ownsRow base e 1 (.slice (some ⟨g, 0, none⟩) l.length c) l.length (strW l)) (hk : k ≤ l.length) (c' : Nat) (hm : m = l.length - k) (hb : Below w.heap.size w w') : SrcIs w' 1 (.slice (some ⟨g, k, none⟩) (l.length - k) c') m (strW (l.drop k)) := by
  have := (src_tail h hk c').below hb
  rw [Nat.mul_one] at this
  rw [strW_drop, hm]; exact this
theorem src_all {w : World} {base : Nat} {e : TypeId} {size g n c : Nat} {xs : List Value} (h : w.ownsRow base e size (.slice (some ⟨g, 0, none⟩) n c) n xs) : SrcIs w size (.slice (some ⟨g, 0, none⟩) n c) n xs := by
  have := src_head h (Nat.le_refl n) c
  rwa [← h.1, List.take_length] at this
def PutRel (l : List ByteArray) (x : ByteArray) (w : World) (i : Value) (wr : World) : Prop := ∃ k : Nat, k ≤ l.length ∧ i = .int .i64 k ∧ (∀ y ∈ l.take k, lessB y x = true) ∧ wr = w
set_option maxHeartbeats 6400000 in
theorem l2Put_any (l : List ByteArray) (v : Value) (x : ByteArray) (w : World) (h : w.ownsRow 0 9 1 v l.length (strW l)) (hx : x ∉ l) (hl : l.length ≤ 1000000) :
    Calls Tryz.prog 79 #[v, .string x] w fun e w' => ∃ v', e = .returned v' ∧ w'.ownsRow w.heap.size 9 1 v' (l.length + 1) (strW (insG lessB l x)) ∧ Below w.heap.size w w' := by
  have H := Lib.hid h
  have HX := Lib.hid hx
  rcases h.2 with ⟨rfl, h0⟩ | ⟨g, c, cur, rfl, -, -, hnc, -⟩
  · obtain rfl : l = [] := List.eq_nil_of_length_eq_zero h0
    clear h hx
    go_enter Tryz.func79, Tryz.ntmps79
    go_wp2
    go_loopw [5] (fun i wr => i = .int .i64 ((0 : Nat) : Int) ∧ wr = w) (fun _ _ => 0)
    case atStart => exact ⟨rfl, rfl⟩
    case round =>
      obtain ⟨rfl, rfl⟩ := hrel
      go_wp2
      refine wp_region_any3 [none, some (.slice none 0 0), some (.int .i64 (0 : Nat)), some (.slice none 0 0), none, some (.string x), none, none, some (.slice none 0 0), some (.int .i64 (0 : Nat)), some (.slice none 0 0), none, none] (InsD 9 1 wr 0 (0 + 1) ([]) ([]) (#[.string x])) (by kernel_rfl) (by kernel_rfl) (fun L hL => InsD.start hL) ?_
      refine flowV_ch rfl rfl (by intro u' hu' L w' hun hbe hD; go_simp; exact hD.b0 hun) ?_
      intro x0
      go_simp
      refine flowV_st rfl rfl (by intro u' L w' hun hbe hD; go_simp; first | exact ⟨hD.other 1 (by decide), rfl⟩ | exact hD.other 1 (by decide)) ?_
      go_simp
      refine flowV_st rfl rfl (by intro u' L w' hun hbe hD; go_simp; first | exact ⟨hD.other 2 (by decide), rfl⟩ | exact hD.other 2 (by decide)) ?_
      go_simp
      refine flowV_st rfl rfl (by intro u' L w' hun hbe hD; go_simp; first | exact ⟨hD.other 3 (by decide), rfl⟩ | exact hD.other 3 (by decide)) ?_
      go_simp
      refine flowV_ch rfl rfl ?_ ?_
      · intro u' hu' L w' hun hbe hD
        have hu0 : u' 0 = x0 := (after_eq hu' (by kernel_rfl)).trans (by simp [upd])
        have h0 := after_behind hbe (p := 0) (by kernel_rfl)
        have hw := hD.bel
        refine each_app (.tmp 33) (.tmp 36) 26 rfl wr.heap.size 9 1 16 elemStr (u' 0) 0 [] (by rw [hu0]; rfl) _ 0 ([]) rfl ((.inl ⟨rfl, rfl, rfl⟩)) (hD.r0 h0 (getD_tf hun)) (by simp) (by omega) (by unfold maxLen; omega) hw.size ?_
        intro v' w2 hr hg hn
        exact hD.a4 hun h0 hr hg hn
      intro x4
      go_simp
      refine flowV_st rfl rfl (by intro u' L w' hun hbe hD; have hw := hD.bel; go_simp; first | exact ⟨hD.other 5 (by decide), rfl⟩ | exact hD.other 5 (by decide)) ?_
      go_simp
      refine flowV_ch rfl rfl (by intro u' hu' L w' hun hbe hD; go_simp; exact hD.b6 hun) ?_
      intro x6
      go_simp
      refine flowV_ch rfl rfl ?_ ?_
      · intro u' hu' L w' hun hbe hD
        have hu4 : u' 4 = x4 := (after_eq hu' (by kernel_rfl)).trans (by simp [upd])
        have hu6 : u' 6 = x6 := (after_eq hu' (by kernel_rfl)).trans (by simp [upd])
        have h4 := after_behind hbe (p := 4) (by kernel_rfl)
        have h6 := after_behind hbe (p := 6) (by kernel_rfl)
        have hw := hD.bel
        obtain ⟨q, hq, hqc, -, -⟩ := hD.r6 h6 (getD_tf hun)
        refine each_app (.tmp 37) (.tmp 39) 26 rfl wr.heap.size 9 1 16 elemStr (u' 4) 0 ([]) (by rw [hu4]; rfl) (.slice (some ⟨q, 0, none⟩) 1 1) 1 (#[.string x]).toList (by rw [← hq, hu6]; rfl) (src_block hqc (by simp)) (hD.r4 h4 (getD_tf hun)) (by simp [Value.oneCell']) (by omega) (by unfold maxLen; omega) hw.size ?_
        intro v' w2 hr hg hn
        exact hD.a7 hun h4 h6 hr hg
      intro x7
      go_simp
      refine flowV_st rfl rfl (by intro u' L w' hun hbe hD; go_simp; first | exact ⟨hD.other 8 (by decide), rfl⟩ | exact hD.other 8 (by decide)) ?_
      go_simp
      refine flowV_st rfl rfl (by intro u' L w' hun hbe hD; go_simp; first | exact ⟨hD.other 9 (by decide), rfl⟩ | exact hD.other 9 (by decide)) ?_
      go_simp
      refine flowV_st rfl rfl (by intro u' L w' hun hbe hD; go_simp; first | exact ⟨hD.other 10 (by decide), rfl⟩ | exact hD.other 10 (by decide)) ?_
      go_simp
      refine flowV_ch rfl rfl ?_ ?_
      · intro u' hu' L w' hun hbe hD
        have hu7 : u' 7 = x7 := (after_eq hu' (by kernel_rfl)).trans (by simp [upd])
        have h7 := after_behind hbe (p := 7) (by kernel_rfl)
        have hw := hD.bel
        refine each_app (.tmp 40) (.tmp 43) 26 rfl wr.heap.size 9 1 16 elemStr (u' 7) (0 + 1) (([]) ++ (#[.string x]).toList) (by rw [hu7]; rfl) _ ((0 + 1) - (0 + 1)) ([]) rfl ((.inl ⟨rfl, by simp, rfl⟩)) (hD.r7 h7 (getD_tf hun)) (by simp) (by omega) (by unfold maxLen; omega) hw.size ?_
        intro v' w2 hr hg hn
        rw [show 0 + 1 + ((0 + 1) - (0 + 1)) = (0 + 1) by omega] at hr
        exact hD.a11 hun h7 hr hg
      intro x11
      go_simp
      refine flowV_ch rfl rfl ?_ ?_
      · intro u' hu' L w' hun hbe hD
        have hu11 : u' 11 = x11 := (after_eq hu' (by kernel_rfl)).trans (by simp [upd])
        have h11 := after_behind hbe (p := 11) (by kernel_rfl)
        go_simp
        rw [← hu11]
        exact hD.m12 hun h11
      intro x12
      go_simp
      refine flowV_nil ?_
      intro L w3 hL hD
      have hx12 : x12 = x11 := by have := hD.r12 (by simpa using hL 12 (by simp)); simpa [upd] using this
      have hrow : w3.ownsRow wr.heap.size 9 1 x11 (0 + 1) (([]) ++ (#[.string x]).toList ++ ([])) := by have := hD.r11 (by simpa using hL 11 (by simp)); simpa [upd] using this
      have hbel3 := hD.bel
      subst hx12
      go_wp2
      refine bodyPost_ret (v := x12) (by simp only [results, Tryz.results79]; go_simp) rfl ⟨_, rfl, ?_, hbel3⟩
      simpa [insG, strW] using hrow
  · have hg := bsz (own_lt h)
    have hci : l.length ≤ c := hnc
    clear h hx
    go_enter Tryz.func79, Tryz.ntmps79
    go_wp2
    go_loopw [5] (PutRel l x w) (fun i _ => l.length - (intOf i).toNat)
    case atStart => exact ⟨0, Nat.zero_le _, rfl, by simp, rfl⟩
    case round =>
      obtain ⟨k, hk, rfl, hle, rfl⟩ := hrel
      have HLE := Lib.hid hle
      clear hle
      by_cases hlt : k < l.length
      · have c0 : wr.cell? ⟨g, k, none⟩ = some (.string l[k]) := by rw [H.out.cellAt k (by omega), strW, List.getElem?_map, List.getElem?_eq_getElem hlt]; rfl
        have hne : l[k] ≠ x := fun e => HX.out (e ▸ List.getElem_mem hlt)
        have HK := Lib.hid (List.take_succ_eq_append_getElem hlt)
        obtain ⟨y, hy⟩ : ∃ y, l[k] = y := ⟨_, rfl⟩
        rw [hy] at c0 hne HK
        have HY := Lib.hid hy
        have hki : (k : Int) < l.length := by omega
        have hkc : (k : Int) ≤ c := by omega
        have hkc2 : k ≤ c := by omega
        have hlc : (l.length : Int) ≤ c := by omega
        have hkl : (k : Int) ≤ l.length := by omega
        have hck : c ≠ k := by omega
        have hne2 : (y.toList == x.toList) = false := by
          rw [Bool.eq_false_iff]; intro e; exact hne ((Lib.bytes_beq_iff y x).1 e)
        clear hy hne
        have hll : Op.bytesLess y.toList x.toList = lessB y x := by rw [lessB, ByteArray.toList_eq, ByteArray.toList_eq]
        cases hL : lessB y x
        · rw [hL] at hll
          have HL := Lib.hid hL
          clear hL
          go_wp2
          refine wp_region_any3 [none, some (.slice (some ⟨g, 0, none⟩) l.length c), some (.int .i64 (k : Nat)), some (.slice (some ⟨g, 0, none⟩) k c), none, some (.string x), none, none, some (.slice (some ⟨g, 0, none⟩) l.length c), some (.int .i64 (k : Nat)), some (.slice (some ⟨g, k, none⟩) (l.length - k) (c - k)), none, none] (InsD 9 1 wr k (l.length + 1) (strW (l.take k)) (strW (l.drop k)) (#[.string x])) (by kernel_rfl) (by kernel_rfl) (fun L hL => InsD.start hL) ?_
          refine flowV_ch rfl rfl (by intro u' hu' L w' hun hbe hD; go_simp; exact hD.b0 hun) ?_
          intro x0
          go_simp
          refine flowV_st rfl rfl (by intro u' L w' hun hbe hD; go_simp; first | exact ⟨hD.other 1 (by decide), rfl⟩ | exact hD.other 1 (by decide)) ?_
          go_simp
          refine flowV_st rfl rfl (by intro u' L w' hun hbe hD; go_simp; first | exact ⟨hD.other 2 (by decide), rfl⟩ | exact hD.other 2 (by decide)) ?_
          go_simp
          refine flowV_st rfl rfl (by intro u' L w' hun hbe hD; go_simp; first | exact ⟨hD.other 3 (by decide), rfl⟩ | exact hD.other 3 (by decide)) ?_
          go_simp
          refine flowV_ch rfl rfl ?_ ?_
          · intro u' hu' L w' hun hbe hD
            have hu0 : u' 0 = x0 := (after_eq hu' (by kernel_rfl)).trans (by simp [upd])
            have h0 := after_behind hbe (p := 0) (by kernel_rfl)
            have hw := hD.bel
            refine each_app (.tmp 33) (.tmp 36) 26 rfl wr.heap.size 9 1 16 elemStr (u' 0) 0 [] (by rw [hu0]; rfl) _ k (strW (l.take k)) rfl ((srcS_head H.out (Nat.le_of_lt hlt) c).below hw) (hD.r0 h0 (getD_tf hun)) (by first | exact strW_cell _ | simp) (by omega) (by unfold maxLen; omega) hw.size ?_
            intro v' w2 hr hg hn
            exact hD.a4 hun h0 hr hg hn
          intro x4
          go_simp
          refine flowV_st rfl rfl (by intro u' L w' hun hbe hD; have hw := hD.bel; go_simp; first | exact ⟨hD.other 5 (by decide), rfl⟩ | exact hD.other 5 (by decide)) ?_
          go_simp
          refine flowV_ch rfl rfl (by intro u' hu' L w' hun hbe hD; go_simp; exact hD.b6 hun) ?_
          intro x6
          go_simp
          refine flowV_ch rfl rfl ?_ ?_
          · intro u' hu' L w' hun hbe hD
            have hu4 : u' 4 = x4 := (after_eq hu' (by kernel_rfl)).trans (by simp [upd])
            have hu6 : u' 6 = x6 := (after_eq hu' (by kernel_rfl)).trans (by simp [upd])
            have h4 := after_behind hbe (p := 4) (by kernel_rfl)
            have h6 := after_behind hbe (p := 6) (by kernel_rfl)
            have hw := hD.bel
            obtain ⟨q, hq, hqc, -, -⟩ := hD.r6 h6 (getD_tf hun)
            refine each_app (.tmp 37) (.tmp 39) 26 rfl wr.heap.size 9 1 16 elemStr (u' 4) k (strW (l.take k)) (by rw [hu4]; rfl) (.slice (some ⟨q, 0, none⟩) 1 1) 1 (#[.string x]).toList (by rw [← hq, hu6]; rfl) (src_block hqc (by simp)) (hD.r4 h4 (getD_tf hun)) (by simp [Value.oneCell']) (by omega) (by unfold maxLen; omega) hw.size ?_
            intro v' w2 hr hg hn
            exact hD.a7 hun h4 h6 hr hg
          intro x7
          go_simp
          refine flowV_st rfl rfl (by intro u' L w' hun hbe hD; go_simp; first | exact ⟨hD.other 8 (by decide), rfl⟩ | exact hD.other 8 (by decide)) ?_
          go_simp
          refine flowV_st rfl rfl (by intro u' L w' hun hbe hD; go_simp; first | exact ⟨hD.other 9 (by decide), rfl⟩ | exact hD.other 9 (by decide)) ?_
          go_simp
          refine flowV_st rfl rfl (by intro u' L w' hun hbe hD; go_simp; first | exact ⟨hD.other 10 (by decide), rfl⟩ | exact hD.other 10 (by decide)) ?_
          go_simp
          refine flowV_ch rfl rfl ?_ ?_
          · intro u' hu' L w' hun hbe hD
            have hu7 : u' 7 = x7 := (after_eq hu' (by kernel_rfl)).trans (by simp [upd])
            have h7 := after_behind hbe (p := 7) (by kernel_rfl)
            have hw := hD.bel
            refine each_app (.tmp 40) (.tmp 43) 26 rfl wr.heap.size 9 1 16 elemStr (u' 7) (k + 1) ((strW (l.take k)) ++ (#[.string x]).toList) (by rw [hu7]; rfl) _ ((l.length + 1) - (k + 1)) (strW (l.drop k)) rfl (srcS_tail' H.out (Nat.le_of_lt hlt) (c - k) (by omega) hw) (hD.r7 h7 (getD_tf hun)) (by first | exact strW_cell _ | simp) (by omega) (by unfold maxLen; omega) hw.size ?_
            intro v' w2 hr hg hn
            rw [show k + 1 + ((l.length + 1) - (k + 1)) = (l.length + 1) by omega] at hr
            exact hD.a11 hun h7 hr hg
          intro x11
          go_simp
          refine flowV_ch rfl rfl ?_ ?_
          · intro u' hu' L w' hun hbe hD
            have hu11 : u' 11 = x11 := (after_eq hu' (by kernel_rfl)).trans (by simp [upd])
            have h11 := after_behind hbe (p := 11) (by kernel_rfl)
            go_simp
            rw [← hu11]
            exact hD.m12 hun h11
          intro x12
          go_simp
          refine flowV_nil ?_
          intro L w3 hL hD
          have hx12 : x12 = x11 := by have := hD.r12 (by simpa using hL 12 (by simp)); simpa [upd] using this
          have hrow : w3.ownsRow wr.heap.size 9 1 x11 (l.length + 1) ((strW (l.take k)) ++ (#[.string x]).toList ++ (strW (l.drop k))) := by have := hD.r11 (by simpa using hL 11 (by simp)); simpa [upd] using this
          have hbel3 := hD.bel
          subst hx12
          go_wp2
          refine bodyPost_ret (v := x12) (by simp only [results, Tryz.results79]; go_simp) rfl ⟨_, rfl, ?_, hbel3⟩
          rw [insG_stop x l k HLE.out (.inr ⟨hlt, by rw [HY.out]; exact HL.out⟩), strW_app, strW_cons]
          simpa using hrow
        · rw [hL] at hll
          have HL := Lib.hid hL
          clear hL
          go_wp2
          refine ⟨⟨k + 1, by omega, by go_num, fun z hz => ?_, rfl⟩, by simp [intOf]; omega⟩
          rw [HK.out] at hz
          rcases List.mem_append.1 hz with hz | hz
          · exact HLE.out z hz
          · obtain rfl : z = y := by simpa using hz
            exact HL.out
      · obtain rfl : k = l.length := by omega
        have hkl : (l.length : Int) ≤ c := by omega
        have hkn : ¬ (l.length : Int) < l.length := by omega
        by_cases hcl : c = l.length
        · subst hcl
          go_wp2
          refine wp_region_any3 [none, some (.slice (some ⟨g, 0, none⟩) l.length l.length), some (.int .i64 (l.length : Nat)), some (.slice (some ⟨g, 0, none⟩) l.length l.length), none, some (.string x), none, none, some (.slice (some ⟨g, 0, none⟩) l.length l.length), some (.int .i64 (l.length : Nat)), some (.slice (some ⟨g, 0, none⟩) 0 0), none, none] (InsD 9 1 wr l.length (l.length + 1) (strW l) ([]) (#[.string x])) (by kernel_rfl) (by kernel_rfl) (fun L hL => InsD.start hL) ?_
          refine flowV_ch rfl rfl (by intro u' hu' L w' hun hbe hD; go_simp; exact hD.b0 hun) ?_
          intro x0
          go_simp
          refine flowV_st rfl rfl (by intro u' L w' hun hbe hD; go_simp; first | exact ⟨hD.other 1 (by decide), rfl⟩ | exact hD.other 1 (by decide)) ?_
          go_simp
          refine flowV_st rfl rfl (by intro u' L w' hun hbe hD; go_simp; first | exact ⟨hD.other 2 (by decide), rfl⟩ | exact hD.other 2 (by decide)) ?_
          go_simp
          refine flowV_st rfl rfl (by intro u' L w' hun hbe hD; go_simp; first | exact ⟨hD.other 3 (by decide), rfl⟩ | exact hD.other 3 (by decide)) ?_
          go_simp
          refine flowV_ch rfl rfl ?_ ?_
          · intro u' hu' L w' hun hbe hD
            have hu0 : u' 0 = x0 := (after_eq hu' (by kernel_rfl)).trans (by simp [upd])
            have h0 := after_behind hbe (p := 0) (by kernel_rfl)
            have hw := hD.bel
            refine each_app (.tmp 33) (.tmp 36) 26 rfl wr.heap.size 9 1 16 elemStr (u' 0) 0 [] (by rw [hu0]; rfl) _ l.length (strW l) rfl ((src_all H.out).below hw) (hD.r0 h0 (getD_tf hun)) (by first | exact strW_cell _ | simp) (by omega) (by unfold maxLen; omega) hw.size ?_
            intro v' w2 hr hg hn
            exact hD.a4 hun h0 hr hg hn
          intro x4
          go_simp
          refine flowV_st rfl rfl (by intro u' L w' hun hbe hD; have hw := hD.bel; go_simp; first | exact ⟨hD.other 5 (by decide), rfl⟩ | exact hD.other 5 (by decide)) ?_
          go_simp
          refine flowV_ch rfl rfl (by intro u' hu' L w' hun hbe hD; go_simp; exact hD.b6 hun) ?_
          intro x6
          go_simp
          refine flowV_ch rfl rfl ?_ ?_
          · intro u' hu' L w' hun hbe hD
            have hu4 : u' 4 = x4 := (after_eq hu' (by kernel_rfl)).trans (by simp [upd])
            have hu6 : u' 6 = x6 := (after_eq hu' (by kernel_rfl)).trans (by simp [upd])
            have h4 := after_behind hbe (p := 4) (by kernel_rfl)
            have h6 := after_behind hbe (p := 6) (by kernel_rfl)
            have hw := hD.bel
            obtain ⟨q, hq, hqc, -, -⟩ := hD.r6 h6 (getD_tf hun)
            refine each_app (.tmp 37) (.tmp 39) 26 rfl wr.heap.size 9 1 16 elemStr (u' 4) l.length (strW l) (by rw [hu4]; rfl) (.slice (some ⟨q, 0, none⟩) 1 1) 1 (#[.string x]).toList (by rw [← hq, hu6]; rfl) (src_block hqc (by simp)) (hD.r4 h4 (getD_tf hun)) (by simp [Value.oneCell']) (by omega) (by unfold maxLen; omega) hw.size ?_
            intro v' w2 hr hg hn
            exact hD.a7 hun h4 h6 hr hg
          intro x7
          go_simp
          refine flowV_st rfl rfl (by intro u' L w' hun hbe hD; go_simp; first | exact ⟨hD.other 8 (by decide), rfl⟩ | exact hD.other 8 (by decide)) ?_
          go_simp
          refine flowV_st rfl rfl (by intro u' L w' hun hbe hD; go_simp; first | exact ⟨hD.other 9 (by decide), rfl⟩ | exact hD.other 9 (by decide)) ?_
          go_simp
          refine flowV_st rfl rfl (by intro u' L w' hun hbe hD; go_simp; first | exact ⟨hD.other 10 (by decide), rfl⟩ | exact hD.other 10 (by decide)) ?_
          go_simp
          refine flowV_ch rfl rfl ?_ ?_
          · intro u' hu' L w' hun hbe hD
            have hu7 : u' 7 = x7 := (after_eq hu' (by kernel_rfl)).trans (by simp [upd])
            have h7 := after_behind hbe (p := 7) (by kernel_rfl)
            have hw := hD.bel
            refine each_app (.tmp 40) (.tmp 43) 26 rfl wr.heap.size 9 1 16 elemStr (u' 7) (l.length + 1) ((strW l) ++ (#[.string x]).toList) (by rw [hu7]; rfl) _ ((l.length + 1) - (l.length + 1)) ([]) rfl (srcNil (by omega)) (hD.r7 h7 (getD_tf hun)) (by first | exact strW_cell _ | simp) (by omega) (by unfold maxLen; omega) hw.size ?_
            intro v' w2 hr hg hn
            rw [show l.length + 1 + ((l.length + 1) - (l.length + 1)) = (l.length + 1) by omega] at hr
            exact hD.a11 hun h7 hr hg
          intro x11
          go_simp
          refine flowV_ch rfl rfl ?_ ?_
          · intro u' hu' L w' hun hbe hD
            have hu11 : u' 11 = x11 := (after_eq hu' (by kernel_rfl)).trans (by simp [upd])
            have h11 := after_behind hbe (p := 11) (by kernel_rfl)
            go_simp
            rw [← hu11]
            exact hD.m12 hun h11
          intro x12
          go_simp
          refine flowV_nil ?_
          intro L w3 hL hD
          have hx12 : x12 = x11 := by have := hD.r12 (by simpa using hL 12 (by simp)); simpa [upd] using this
          have hrow : w3.ownsRow wr.heap.size 9 1 x11 (l.length + 1) ((strW l) ++ (#[.string x]).toList ++ ([])) := by have := hD.r11 (by simpa using hL 11 (by simp)); simpa [upd] using this
          have hbel3 := hD.bel
          subst hx12
          go_wp2
          refine bodyPost_ret (v := x12) (by simp only [results, Tryz.results79]; go_simp) rfl ⟨_, rfl, ?_, hbel3⟩
          rw [insG_stop x l l.length HLE.out (.inl (Nat.le_refl _)), List.take_length, List.drop_length, strW_app, strW_cons]
          simpa [strW] using hrow
        · have hcl2 : ¬ l.length = c := fun e => hcl e.symm
          go_wp2
          refine wp_region_any3 [none, some (.slice (some ⟨g, 0, none⟩) l.length c), some (.int .i64 (l.length : Nat)), some (.slice (some ⟨g, 0, none⟩) l.length c), none, some (.string x), none, none, some (.slice (some ⟨g, 0, none⟩) l.length c), some (.int .i64 (l.length : Nat)), some (.slice (some ⟨g, l.length, none⟩) 0 (c - l.length)), none, none] (InsD 9 1 wr l.length (l.length + 1) (strW l) ([]) (#[.string x])) (by kernel_rfl) (by kernel_rfl) (fun L hL => InsD.start hL) ?_
          refine flowV_ch rfl rfl (by intro u' hu' L w' hun hbe hD; go_simp; exact hD.b0 hun) ?_
          intro x0
          go_simp
          refine flowV_st rfl rfl (by intro u' L w' hun hbe hD; go_simp; first | exact ⟨hD.other 1 (by decide), rfl⟩ | exact hD.other 1 (by decide)) ?_
          go_simp
          refine flowV_st rfl rfl (by intro u' L w' hun hbe hD; go_simp; first | exact ⟨hD.other 2 (by decide), rfl⟩ | exact hD.other 2 (by decide)) ?_
          go_simp
          refine flowV_st rfl rfl (by intro u' L w' hun hbe hD; go_simp; first | exact ⟨hD.other 3 (by decide), rfl⟩ | exact hD.other 3 (by decide)) ?_
          go_simp
          refine flowV_ch rfl rfl ?_ ?_
          · intro u' hu' L w' hun hbe hD
            have hu0 : u' 0 = x0 := (after_eq hu' (by kernel_rfl)).trans (by simp [upd])
            have h0 := after_behind hbe (p := 0) (by kernel_rfl)
            have hw := hD.bel
            refine each_app (.tmp 33) (.tmp 36) 26 rfl wr.heap.size 9 1 16 elemStr (u' 0) 0 [] (by rw [hu0]; rfl) _ l.length (strW l) rfl ((src_all H.out).below hw) (hD.r0 h0 (getD_tf hun)) (by first | exact strW_cell _ | simp) (by omega) (by unfold maxLen; omega) hw.size ?_
            intro v' w2 hr hg hn
            exact hD.a4 hun h0 hr hg hn
          intro x4
          go_simp
          refine flowV_st rfl rfl (by intro u' L w' hun hbe hD; have hw := hD.bel; go_simp; first | exact ⟨hD.other 5 (by decide), rfl⟩ | exact hD.other 5 (by decide)) ?_
          go_simp
          refine flowV_ch rfl rfl (by intro u' hu' L w' hun hbe hD; go_simp; exact hD.b6 hun) ?_
          intro x6
          go_simp
          refine flowV_ch rfl rfl ?_ ?_
          · intro u' hu' L w' hun hbe hD
            have hu4 : u' 4 = x4 := (after_eq hu' (by kernel_rfl)).trans (by simp [upd])
            have hu6 : u' 6 = x6 := (after_eq hu' (by kernel_rfl)).trans (by simp [upd])
            have h4 := after_behind hbe (p := 4) (by kernel_rfl)
            have h6 := after_behind hbe (p := 6) (by kernel_rfl)
            have hw := hD.bel
            obtain ⟨q, hq, hqc, -, -⟩ := hD.r6 h6 (getD_tf hun)
            refine each_app (.tmp 37) (.tmp 39) 26 rfl wr.heap.size 9 1 16 elemStr (u' 4) l.length (strW l) (by rw [hu4]; rfl) (.slice (some ⟨q, 0, none⟩) 1 1) 1 (#[.string x]).toList (by rw [← hq, hu6]; rfl) (src_block hqc (by simp)) (hD.r4 h4 (getD_tf hun)) (by simp [Value.oneCell']) (by omega) (by unfold maxLen; omega) hw.size ?_
            intro v' w2 hr hg hn
            exact hD.a7 hun h4 h6 hr hg
          intro x7
          go_simp
          refine flowV_st rfl rfl (by intro u' L w' hun hbe hD; go_simp; first | exact ⟨hD.other 8 (by decide), rfl⟩ | exact hD.other 8 (by decide)) ?_
          go_simp
          refine flowV_st rfl rfl (by intro u' L w' hun hbe hD; go_simp; first | exact ⟨hD.other 9 (by decide), rfl⟩ | exact hD.other 9 (by decide)) ?_
          go_simp
          refine flowV_st rfl rfl (by intro u' L w' hun hbe hD; go_simp; first | exact ⟨hD.other 10 (by decide), rfl⟩ | exact hD.other 10 (by decide)) ?_
          go_simp
          refine flowV_ch rfl rfl ?_ ?_
          · intro u' hu' L w' hun hbe hD
            have hu7 : u' 7 = x7 := (after_eq hu' (by kernel_rfl)).trans (by simp [upd])
            have h7 := after_behind hbe (p := 7) (by kernel_rfl)
            have hw := hD.bel
            refine each_app (.tmp 40) (.tmp 43) 26 rfl wr.heap.size 9 1 16 elemStr (u' 7) (l.length + 1) ((strW l) ++ (#[.string x]).toList) (by rw [hu7]; rfl) _ ((l.length + 1) - (l.length + 1)) ([]) rfl (srcNil (by omega)) (hD.r7 h7 (getD_tf hun)) (by first | exact strW_cell _ | simp) (by omega) (by unfold maxLen; omega) hw.size ?_
            intro v' w2 hr hg hn
            rw [show l.length + 1 + ((l.length + 1) - (l.length + 1)) = (l.length + 1) by omega] at hr
            exact hD.a11 hun h7 hr hg
          intro x11
          go_simp
          refine flowV_ch rfl rfl ?_ ?_
          · intro u' hu' L w' hun hbe hD
            have hu11 : u' 11 = x11 := (after_eq hu' (by kernel_rfl)).trans (by simp [upd])
            have h11 := after_behind hbe (p := 11) (by kernel_rfl)
            go_simp
            rw [← hu11]
            exact hD.m12 hun h11
          intro x12
          go_simp
          refine flowV_nil ?_
          intro L w3 hL hD
          have hx12 : x12 = x11 := by have := hD.r12 (by simpa using hL 12 (by simp)); simpa [upd] using this
          have hrow : w3.ownsRow wr.heap.size 9 1 x11 (l.length + 1) ((strW l) ++ (#[.string x]).toList ++ ([])) := by have := hD.r11 (by simpa using hL 11 (by simp)); simpa [upd] using this
          have hbel3 := hD.bel
          subst hx12
          go_wp2
          refine bodyPost_ret (v := x12) (by simp only [results, Tryz.results79]; go_simp) rfl ⟨_, rfl, ?_, hbel3⟩
          rw [insG_stop x l l.length HLE.out (.inl (Nat.le_refl _)), List.take_length, List.drop_length, strW_app, strW_cons]
          simpa [strW] using hrow
end Go.Proofs.YtkgfanajgdelcaaGreatDoor
