/- The generator of a unit. Conditions: sizes. -/
import Derived.Test.YtkgfanajgdelcaaGreatDoorUnPart1
import Derived.Test.YtkgfanajgdelcaaGreatDoorUnPart2
import Derived.Test.YtkgfanajgdelcaaGreatDoorUnPart4
import Derived.Test.YtkgfanajgdelcaaGreatDoorUnPart5
import Derived.Test.YtkgfanajgdelcaaGreatDoorUnPart11
namespace Go.Proofs.YtkgfanajgdelcaaGreatDoor
open Go.RowKit
theorem wtS_put (l : List ByteArray) (x : ByteArray) (k : Nat) : wtS (l.take k ++ x :: l.drop k) ≤ wtS l + x.size := by
  have app : ∀ a b : List ByteArray, wtS (a ++ b) = wtS a + wtS b := fun a b => by
    induction a with
    | nil => simp [wtS]
    | cons x a ih => rw [List.cons_append, wtS, ih, wtS]; omega
  have e := congrArg wtS (List.take_append_drop k l)
  rw [app] at e
  rw [app, wtS]; omega
set_option maxRecDepth 100000 in
set_option maxHeartbeats 6400000 in
theorem l2Put_gen (base : Nat) (l : List ByteArray) (v : Value) (x : ByteArray) (w : World) (h : w.ownsRow base 9 1 v l.length (strW l)) (hbs : base ≤ w.heap.size) (hl : l.length ≤ 1000000) :
    Calls Tryz.prog 79 #[v, .string x] w fun e w' => ∃ (l' : List ByteArray) (v' : Value), e = .returned v' ∧ w'.ownsRow base 9 1 v' l'.length (strW l') ∧ l'.length ≤ l.length + 1 ∧ wtS l' ≤ wtS l + x.size ∧ Below w.heap.size w w' := by
  have H := Lib.hid h
  have HBS := Lib.hid hbs
  rcases h.2 with ⟨rfl, h0⟩ | ⟨g, c, cur, rfl, -, -, hnc, -⟩
  · obtain rfl : l = [] := List.eq_nil_of_length_eq_zero h0
    clear h hbs
    go_enter Tryz.func79, Tryz.ntmps79
    go_wp2
    go_loopw [5] (fun i wr => i = .int .i64 ((0 : Nat) : Int) ∧ wr = w) (fun _ _ => 0)
    case atStart => exact ⟨rfl, rfl⟩
    case round =>
      obtain ⟨rfl, rfl⟩ := hrel
      go_wp2
      refine wp_region_any3 [none, some (.slice none 0 0), some (.int .i64 (0 : Nat)), some (.slice none 0 0), none, some (.string x), none, none, some (.slice none 0 0), some (.int .i64 (0 : Nat)), some (.slice none 0 0), none, none] (InsD 9 1 wr 0 (0 + 1) ([]) ([]) (#[.string x])) (by kernel_rfl) (by kernel_rfl) (fun L hL => InsD.start hL) ?_
      refine flowV_ch rfl rfl (by intro u' hu' L w' hun hbe hD; go_simp; exact hD.b0 hun) ?_
      intro x0
      go_simp
      refine flowV_st rfl rfl (by intro u' L w' hun hbe hD; go_simp; first | exact ⟨hD.other 1 (by decide), rfl⟩ | exact hD.other 1 (by decide)) ?_
      go_simp
      refine flowV_st rfl rfl (by intro u' L w' hun hbe hD; go_simp; first | exact ⟨hD.other 2 (by decide), rfl⟩ | exact hD.other 2 (by decide)) ?_
      go_simp
      refine flowV_st rfl rfl (by intro u' L w' hun hbe hD; go_simp; first | exact ⟨hD.other 3 (by decide), rfl⟩ | exact hD.other 3 (by decide)) ?_
      go_simp
      refine flowV_ch rfl rfl ?_ ?_
      · intro u' hu' L w' hun hbe hD
        have hu0 : u' 0 = x0 := (after_eq hu' (by kernel_rfl)).trans (by simp [upd])
        have h0 := after_behind hbe (p := 0) (by kernel_rfl)
        have hw := hD.bel
        refine each_app (.tmp 33) (.tmp 36) 26 rfl wr.heap.size 9 1 16 elemStr (u' 0) 0 [] (by rw [hu0]; rfl) _ 0 ([]) rfl ((.inl ⟨rfl, rfl, rfl⟩)) (hD.r0 h0 (getD_tf hun)) (by simp) (by omega) (by unfold maxLen; omega) hw.size ?_
        intro v' w2 hr hg hn
        exact hD.a4 hun h0 hr hg hn
      intro x4
      go_simp
      refine flowV_st rfl rfl (by intro u' L w' hun hbe hD; have hw := hD.bel; go_simp; first | exact ⟨hD.other 5 (by decide), rfl⟩ | exact hD.other 5 (by decide)) ?_
      go_simp
      refine flowV_ch rfl rfl (by intro u' hu' L w' hun hbe hD; go_simp; exact hD.b6 hun) ?_
      intro x6
      go_simp
      refine flowV_ch rfl rfl ?_ ?_
      · intro u' hu' L w' hun hbe hD
        have hu4 : u' 4 = x4 := (after_eq hu' (by kernel_rfl)).trans (by simp [upd])
        have hu6 : u' 6 = x6 := (after_eq hu' (by kernel_rfl)).trans (by simp [upd])
        have h4 := after_behind hbe (p := 4) (by kernel_rfl)
        have h6 := after_behind hbe (p := 6) (by kernel_rfl)
        have hw := hD.bel
        obtain ⟨q, hq, hqc, -, -⟩ := hD.r6 h6 (getD_tf hun)
        refine each_app (.tmp 37) (.tmp 39) 26 rfl wr.heap.size 9 1 16 elemStr (u' 4) 0 ([]) (by rw [hu4]; rfl) (.slice (some ⟨q, 0, none⟩) 1 1) 1 (#[.string x]).toList (by rw [← hq, hu6]; rfl) (src_block hqc (by simp)) (hD.r4 h4 (getD_tf hun)) (by simp [Value.oneCell']) (by omega) (by unfold maxLen; omega) hw.size ?_
        intro v' w2 hr hg hn
        exact hD.a7 hun h4 h6 hr hg
      intro x7
      go_simp
      refine flowV_st rfl rfl (by intro u' L w' hun hbe hD; go_simp; first | exact ⟨hD.other 8 (by decide), rfl⟩ | exact hD.other 8 (by decide)) ?_
      go_simp
      refine flowV_st rfl rfl (by intro u' L w' hun hbe hD; go_simp; first | exact ⟨hD.other 9 (by decide), rfl⟩ | exact hD.other 9 (by decide)) ?_
      go_simp
      refine flowV_st rfl rfl (by intro u' L w' hun hbe hD; go_simp; first | exact ⟨hD.other 10 (by decide), rfl⟩ | exact hD.other 10 (by decide)) ?_
      go_simp
      refine flowV_ch rfl rfl ?_ ?_
      · intro u' hu' L w' hun hbe hD
        have hu7 : u' 7 = x7 := (after_eq hu' (by kernel_rfl)).trans (by simp [upd])
        have h7 := after_behind hbe (p := 7) (by kernel_rfl)
        have hw := hD.bel
        refine each_app (.tmp 40) (.tmp 43) 26 rfl wr.heap.size 9 1 16 elemStr (u' 7) (0 + 1) (([]) ++ (#[.string x]).toList) (by rw [hu7]; rfl) _ ((0 + 1) - (0 + 1)) ([]) rfl ((.inl ⟨rfl, by simp, rfl⟩)) (hD.r7 h7 (getD_tf hun)) (by simp) (by omega) (by unfold maxLen; omega) hw.size ?_
        intro v' w2 hr hg hn
        rw [show 0 + 1 + ((0 + 1) - (0 + 1)) = (0 + 1) by omega] at hr
        exact hD.a11 hun h7 hr hg
      intro x11
      go_simp
      refine flowV_ch rfl rfl ?_ ?_
      · intro u' hu' L w' hun hbe hD
        have hu11 : u' 11 = x11 := (after_eq hu' (by kernel_rfl)).trans (by simp [upd])
        have h11 := after_behind hbe (p := 11) (by kernel_rfl)
        go_simp
        rw [← hu11]
        exact hD.m12 hun h11
      intro x12
      go_simp
      refine flowV_nil ?_
      intro L w3 hL hD
      have hx12 : x12 = x11 := by have := hD.r12 (by simpa using hL 12 (by simp)); simpa [upd] using this
      have hrow : w3.ownsRow wr.heap.size 9 1 x11 (0 + 1) (([]) ++ (#[.string x]).toList ++ ([])) := by have := hD.r11 (by simpa using hL 11 (by simp)); simpa [upd] using this
      have hbel3 := hD.bel
      subst hx12
      go_wp2
      refine bodyPost_ret (v := x12) (by simp only [results, Tryz.results79]; go_simp) rfl ⟨[x], _, rfl, ?_, by simp, by simp [wtS], hbel3⟩
      have := own_lower hrow HBS.out
      simpa [strW] using this
  · have hg := bsz (own_lt h)
    have hci : l.length ≤ c := hnc
    clear h hbs
    go_enter Tryz.func79, Tryz.ntmps79
    go_wp2
    go_loopw [5] (PutRel l x w) (fun i _ => l.length - (intOf i).toNat)
    case atStart => exact ⟨0, Nat.zero_le _, rfl, by simp, rfl⟩
    case round =>
      obtain ⟨k, hk, rfl, hle, rfl⟩ := hrel
      have HLE := Lib.hid hle
      clear hle
      by_cases hlt : k < l.length
      · have c0 : wr.cell? ⟨g, k, none⟩ = some (.string l[k]) := by rw [H.out.cellAt k (by omega), strW, List.getElem?_map, List.getElem?_eq_getElem hlt]; rfl
        have HK := Lib.hid (List.take_succ_eq_append_getElem hlt)
        obtain ⟨y, hy⟩ : ∃ y, l[k] = y := ⟨_, rfl⟩
        rw [hy] at c0 HK
        have HY := Lib.hid hy
        have hki : (k : Int) < l.length := by omega
        have hkc : (k : Int) ≤ c := by omega
        have hkc2 : k ≤ c := by omega
        have hlc : (l.length : Int) ≤ c := by omega
        have hkl : (k : Int) ≤ l.length := by omega
        have hck : c ≠ k := by omega
        clear hy
        have hll : Op.bytesLess y.toList x.toList = lessB y x := by rw [lessB, ByteArray.toList_eq, ByteArray.toList_eq]
        cases hL : lessB y x
        · rw [hL] at hll
          have HL := Lib.hid hL
          clear hL
          cases hE : (y.toList == x.toList)
          case true =>
            go_wp2
            refine bodyPost_ret (v := .slice (some ⟨g, 0, none⟩) l.length c) (by simp only [results, Tryz.results79]; go_simp) rfl ⟨l, _, rfl, ?_, by omega, by omega, by exact bel⟩
            exact own_below H.out (by exact bel)
          go_wp2
          refine wp_region_any3 [none, some (.slice (some ⟨g, 0, none⟩) l.length c), some (.int .i64 (k : Nat)), some (.slice (some ⟨g, 0, none⟩) k c), none, some (.string x), none, none, some (.slice (some ⟨g, 0, none⟩) l.length c), some (.int .i64 (k : Nat)), some (.slice (some ⟨g, k, none⟩) (l.length - k) (c - k)), none, none] (InsD 9 1 wr k (l.length + 1) (strW (l.take k)) (strW (l.drop k)) (#[.string x])) (by kernel_rfl) (by kernel_rfl) (fun L hL => InsD.start hL) ?_
          refine flowV_ch rfl rfl (by intro u' hu' L w' hun hbe hD; go_simp; exact hD.b0 hun) ?_
          intro x0
          go_simp
          refine flowV_st rfl rfl (by intro u' L w' hun hbe hD; go_simp; first | exact ⟨hD.other 1 (by decide), rfl⟩ | exact hD.other 1 (by decide)) ?_
          go_simp
          refine flowV_st rfl rfl (by intro u' L w' hun hbe hD; go_simp; first | exact ⟨hD.other 2 (by decide), rfl⟩ | exact hD.other 2 (by decide)) ?_
          go_simp
          refine flowV_st rfl rfl (by intro u' L w' hun hbe hD; go_simp; first | exact ⟨hD.other 3 (by decide), rfl⟩ | exact hD.other 3 (by decide)) ?_
          go_simp
          refine flowV_ch rfl rfl ?_ ?_
          · intro u' hu' L w' hun hbe hD
            have hu0 : u' 0 = x0 := (after_eq hu' (by kernel_rfl)).trans (by simp [upd])
            have h0 := after_behind hbe (p := 0) (by kernel_rfl)
            have hw := hD.bel
            refine each_app (.tmp 33) (.tmp 36) 26 rfl wr.heap.size 9 1 16 elemStr (u' 0) 0 [] (by rw [hu0]; rfl) _ k (strW (l.take k)) rfl ((srcS_head H.out (Nat.le_of_lt hlt) c).below hw) (hD.r0 h0 (getD_tf hun)) (by first | exact strW_cell _ | simp) (by omega) (by unfold maxLen; omega) hw.size ?_
            intro v' w2 hr hg hn
            exact hD.a4 hun h0 hr hg hn
          intro x4
          go_simp
          refine flowV_st rfl rfl (by intro u' L w' hun hbe hD; have hw := hD.bel; go_simp; first | exact ⟨hD.other 5 (by decide), rfl⟩ | exact hD.other 5 (by decide)) ?_
          go_simp
          refine flowV_ch rfl rfl (by intro u' hu' L w' hun hbe hD; go_simp; exact hD.b6 hun) ?_
          intro x6
          go_simp
          refine flowV_ch rfl rfl ?_ ?_
          · intro u' hu' L w' hun hbe hD
            have hu4 : u' 4 = x4 := (after_eq hu' (by kernel_rfl)).trans (by simp [upd])
            have hu6 : u' 6 = x6 := (after_eq hu' (by kernel_rfl)).trans (by simp [upd])
            have h4 := after_behind hbe (p := 4) (by kernel_rfl)
            have h6 := after_behind hbe (p := 6) (by kernel_rfl)
            have hw := hD.bel
            obtain ⟨q, hq, hqc, -, -⟩ := hD.r6 h6 (getD_tf hun)
            refine each_app (.tmp 37) (.tmp 39) 26 rfl wr.heap.size 9 1 16 elemStr (u' 4) k (strW (l.take k)) (by rw [hu4]; rfl) (.slice (some ⟨q, 0, none⟩) 1 1) 1 (#[.string x]).toList (by rw [← hq, hu6]; rfl) (src_block hqc (by simp)) (hD.r4 h4 (getD_tf hun)) (by simp [Value.oneCell']) (by omega) (by unfold maxLen; omega) hw.size ?_
            intro v' w2 hr hg hn
            exact hD.a7 hun h4 h6 hr hg
          intro x7
          go_simp
          refine flowV_st rfl rfl (by intro u' L w' hun hbe hD; go_simp; first | exact ⟨hD.other 8 (by decide), rfl⟩ | exact hD.other 8 (by decide)) ?_
          go_simp
          refine flowV_st rfl rfl (by intro u' L w' hun hbe hD; go_simp; first | exact ⟨hD.other 9 (by decide), rfl⟩ | exact hD.other 9 (by decide)) ?_
          go_simp
          refine flowV_st rfl rfl (by intro u' L w' hun hbe hD; go_simp; first | exact ⟨hD.other 10 (by decide), rfl⟩ | exact hD.other 10 (by decide)) ?_
          go_simp
          refine flowV_ch rfl rfl ?_ ?_
          · intro u' hu' L w' hun hbe hD
            have hu7 : u' 7 = x7 := (after_eq hu' (by kernel_rfl)).trans (by simp [upd])
            have h7 := after_behind hbe (p := 7) (by kernel_rfl)
            have hw := hD.bel
            refine each_app (.tmp 40) (.tmp 43) 26 rfl wr.heap.size 9 1 16 elemStr (u' 7) (k + 1) ((strW (l.take k)) ++ (#[.string x]).toList) (by rw [hu7]; rfl) _ ((l.length + 1) - (k + 1)) (strW (l.drop k)) rfl (srcS_tail' H.out (Nat.le_of_lt hlt) (c - k) (by omega) hw) (hD.r7 h7 (getD_tf hun)) (by first | exact strW_cell _ | simp) (by omega) (by unfold maxLen; omega) hw.size ?_
            intro v' w2 hr hg hn
            rw [show k + 1 + ((l.length + 1) - (k + 1)) = (l.length + 1) by omega] at hr
            exact hD.a11 hun h7 hr hg
          intro x11
          go_simp
          refine flowV_ch rfl rfl ?_ ?_
          · intro u' hu' L w' hun hbe hD
            have hu11 : u' 11 = x11 := (after_eq hu' (by kernel_rfl)).trans (by simp [upd])
            have h11 := after_behind hbe (p := 11) (by kernel_rfl)
            go_simp
            rw [← hu11]
            exact hD.m12 hun h11
          intro x12
          go_simp
          refine flowV_nil ?_
          intro L w3 hL hD
          have hx12 : x12 = x11 := by have := hD.r12 (by simpa using hL 12 (by simp)); simpa [upd] using this
          have hrow : w3.ownsRow wr.heap.size 9 1 x11 (l.length + 1) ((strW (l.take k)) ++ (#[.string x]).toList ++ (strW (l.drop k))) := by have := hD.r11 (by simpa using hL 11 (by simp)); simpa [upd] using this
          have hbel3 := hD.bel
          subst hx12
          go_wp2
          refine bodyPost_ret (v := x12) (by simp only [results, Tryz.results79]; go_simp) rfl ⟨l.take k ++ x :: l.drop k, _, rfl, ?_, by simp; omega, wtS_put l x k, hbel3⟩
          have e : (l.take k ++ x :: l.drop k).length = l.length + 1 := by simp; omega
          have := own_lower hrow HBS.out
          rw [e, strW_app, strW_cons]
          simpa using this
        · rw [hL] at hll
          have HL := Lib.hid hL
          clear hL
          go_wp2
          refine ⟨⟨k + 1, by omega, by go_num, fun z hz => ?_, rfl⟩, by simp [intOf]; omega⟩
          rw [HK.out] at hz
          rcases List.mem_append.1 hz with hz | hz
          · exact HLE.out z hz
          · obtain rfl : z = y := by simpa using hz
            exact HL.out
      · obtain rfl : k = l.length := by omega
        have hkl : (l.length : Int) ≤ c := by omega
        have hkn : ¬ (l.length : Int) < l.length := by omega
        by_cases hcl : c = l.length
        · subst hcl
          go_wp2
          refine wp_region_any3 [none, some (.slice (some ⟨g, 0, none⟩) l.length l.length), some (.int .i64 (l.length : Nat)), some (.slice (some ⟨g, 0, none⟩) l.length l.length), none, some (.string x), none, none, some (.slice (some ⟨g, 0, none⟩) l.length l.length), some (.int .i64 (l.length : Nat)), some (.slice (some ⟨g, 0, none⟩) 0 0), none, none] (InsD 9 1 wr l.length (l.length + 1) (strW l) ([]) (#[.string x])) (by kernel_rfl) (by kernel_rfl) (fun L hL => InsD.start hL) ?_
          refine flowV_ch rfl rfl (by intro u' hu' L w' hun hbe hD; go_simp; exact hD.b0 hun) ?_
          intro x0
          go_simp
          refine flowV_st rfl rfl (by intro u' L w' hun hbe hD; go_simp; first | exact ⟨hD.other 1 (by decide), rfl⟩ | exact hD.other 1 (by decide)) ?_
          go_simp
          refine flowV_st rfl rfl (by intro u' L w' hun hbe hD; go_simp; first | exact ⟨hD.other 2 (by decide), rfl⟩ | exact hD.other 2 (by decide)) ?_
          go_simp
          refine flowV_st rfl rfl (by intro u' L w' hun hbe hD; go_simp; first | exact ⟨hD.other 3 (by decide), rfl⟩ | exact hD.other 3 (by decide)) ?_
          go_simp
          refine flowV_ch rfl rfl ?_ ?_
          · intro u' hu' L w' hun hbe hD
            have hu0 : u' 0 = x0 := (after_eq hu' (by kernel_rfl)).trans (by simp [upd])
            have h0 := after_behind hbe (p := 0) (by kernel_rfl)
            have hw := hD.bel
            refine each_app (.tmp 33) (.tmp 36) 26 rfl wr.heap.size 9 1 16 elemStr (u' 0) 0 [] (by rw [hu0]; rfl) _ l.length (strW l) rfl ((src_all H.out).below hw) (hD.r0 h0 (getD_tf hun)) (by first | exact strW_cell _ | simp) (by omega) (by unfold maxLen; omega) hw.size ?_
            intro v' w2 hr hg hn
            exact hD.a4 hun h0 hr hg hn
          intro x4
          go_simp
          refine flowV_st rfl rfl (by intro u' L w' hun hbe hD; have hw := hD.bel; go_simp; first | exact ⟨hD.other 5 (by decide), rfl⟩ | exact hD.other 5 (by decide)) ?_
          go_simp
          refine flowV_ch rfl rfl (by intro u' hu' L w' hun hbe hD; go_simp; exact hD.b6 hun) ?_
          intro x6
          go_simp
          refine flowV_ch rfl rfl ?_ ?_
          · intro u' hu' L w' hun hbe hD
            have hu4 : u' 4 = x4 := (after_eq hu' (by kernel_rfl)).trans (by simp [upd])
            have hu6 : u' 6 = x6 := (after_eq hu' (by kernel_rfl)).trans (by simp [upd])
            have h4 := after_behind hbe (p := 4) (by kernel_rfl)
            have h6 := after_behind hbe (p := 6) (by kernel_rfl)
            have hw := hD.bel
            obtain ⟨q, hq, hqc, -, -⟩ := hD.r6 h6 (getD_tf hun)
            refine each_app (.tmp 37) (.tmp 39) 26 rfl wr.heap.size 9 1 16 elemStr (u' 4) l.length (strW l) (by rw [hu4]; rfl) (.slice (some ⟨q, 0, none⟩) 1 1) 1 (#[.string x]).toList (by rw [← hq, hu6]; rfl) (src_block hqc (by simp)) (hD.r4 h4 (getD_tf hun)) (by simp [Value.oneCell']) (by omega) (by unfold maxLen; omega) hw.size ?_
            intro v' w2 hr hg hn
            exact hD.a7 hun h4 h6 hr hg
          intro x7
          go_simp
          refine flowV_st rfl rfl (by intro u' L w' hun hbe hD; go_simp; first | exact ⟨hD.other 8 (by decide), rfl⟩ | exact hD.other 8 (by decide)) ?_
          go_simp
          refine flowV_st rfl rfl (by intro u' L w' hun hbe hD; go_simp; first | exact ⟨hD.other 9 (by decide), rfl⟩ | exact hD.other 9 (by decide)) ?_
          go_simp
          refine flowV_st rfl rfl (by intro u' L w' hun hbe hD; go_simp; first | exact ⟨hD.other 10 (by decide), rfl⟩ | exact hD.other 10 (by decide)) ?_
          go_simp
          refine flowV_ch rfl rfl ?_ ?_
          · intro u' hu' L w' hun hbe hD
            have hu7 : u' 7 = x7 := (after_eq hu' (by kernel_rfl)).trans (by simp [upd])
            have h7 := after_behind hbe (p := 7) (by kernel_rfl)
            have hw := hD.bel
            refine each_app (.tmp 40) (.tmp 43) 26 rfl wr.heap.size 9 1 16 elemStr (u' 7) (l.length + 1) ((strW l) ++ (#[.string x]).toList) (by rw [hu7]; rfl) _ ((l.length + 1) - (l.length + 1)) ([]) rfl (srcNil (by omega)) (hD.r7 h7 (getD_tf hun)) (by first | exact strW_cell _ | simp) (by omega) (by unfold maxLen; omega) hw.size ?_
            intro v' w2 hr hg hn
            rw [show l.length + 1 + ((l.length + 1) - (l.length + 1)) = (l.length + 1) by omega] at hr
            exact hD.a11 hun h7 hr hg
          intro x11
          go_simp
          refine flowV_ch rfl rfl ?_ ?_
          · intro u' hu' L w' hun hbe hD
            have hu11 : u' 11 = x11 := (after_eq hu' (by kernel_rfl)).trans (by simp [upd])
            have h11 := after_behind hbe (p := 11) (by kernel_rfl)
            go_simp
            rw [← hu11]
            exact hD.m12 hun h11
          intro x12
          go_simp
          refine flowV_nil ?_
          intro L w3 hL hD
          have hx12 : x12 = x11 := by have := hD.r12 (by simpa using hL 12 (by simp)); simpa [upd] using this
          have hrow : w3.ownsRow wr.heap.size 9 1 x11 (l.length + 1) ((strW l) ++ (#[.string x]).toList ++ ([])) := by have := hD.r11 (by simpa using hL 11 (by simp)); simpa [upd] using this
          have hbel3 := hD.bel
          subst hx12
          go_wp2
          refine bodyPost_ret (v := x12) (by simp only [results, Tryz.results79]; go_simp) rfl ⟨l ++ [x], _, rfl, ?_, by simp, by rw [wtS_snoc]; omega, hbel3⟩
          have := own_lower hrow HBS.out
          simpa [strW] using this
        · have hcl2 : ¬ l.length = c := fun e => hcl e.symm
          go_wp2
          refine wp_region_any3 [none, some (.slice (some ⟨g, 0, none⟩) l.length c), some (.int .i64 (l.length : Nat)), some (.slice (some ⟨g, 0, none⟩) l.length c), none, some (.string x), none, none, some (.slice (some ⟨g, 0, none⟩) l.length c), some (.int .i64 (l.length : Nat)), some (.slice (some ⟨g, l.length, none⟩) 0 (c - l.length)), none, none] (InsD 9 1 wr l.length (l.length + 1) (strW l) ([]) (#[.string x])) (by kernel_rfl) (by kernel_rfl) (fun L hL => InsD.start hL) ?_
          refine flowV_ch rfl rfl (by intro u' hu' L w' hun hbe hD; go_simp; exact hD.b0 hun) ?_
          intro x0
          go_simp
          refine flowV_st rfl rfl (by intro u' L w' hun hbe hD; go_simp; first | exact ⟨hD.other 1 (by decide), rfl⟩ | exact hD.other 1 (by decide)) ?_
          go_simp
          refine flowV_st rfl rfl (by intro u' L w' hun hbe hD; go_simp; first | exact ⟨hD.other 2 (by decide), rfl⟩ | exact hD.other 2 (by decide)) ?_
          go_simp
          refine flowV_st rfl rfl (by intro u' L w' hun hbe hD; go_simp; first | exact ⟨hD.other 3 (by decide), rfl⟩ | exact hD.other 3 (by decide)) ?_
          go_simp
          refine flowV_ch rfl rfl ?_ ?_
          · intro u' hu' L w' hun hbe hD
            have hu0 : u' 0 = x0 := (after_eq hu' (by kernel_rfl)).trans (by simp [upd])
            have h0 := after_behind hbe (p := 0) (by kernel_rfl)
            have hw := hD.bel
            refine each_app (.tmp 33) (.tmp 36) 26 rfl wr.heap.size 9 1 16 elemStr (u' 0) 0 [] (by rw [hu0]; rfl) _ l.length (strW l) rfl ((src_all H.out).below hw) (hD.r0 h0 (getD_tf hun)) (by first | exact strW_cell _ | simp) (by omega) (by unfold maxLen; omega) hw.size ?_
            intro v' w2 hr hg hn
            exact hD.a4 hun h0 hr hg hn
          intro x4
          go_simp
          refine flowV_st rfl rfl (by intro u' L w' hun hbe hD; have hw := hD.bel; go_simp; first | exact ⟨hD.other 5 (by decide), rfl⟩ | exact hD.other 5 (by decide)) ?_
          go_simp
          refine flowV_ch rfl rfl (by intro u' hu' L w' hun hbe hD; go_simp; exact hD.b6 hun) ?_
          intro x6
          go_simp
          refine flowV_ch rfl rfl ?_ ?_
          · intro u' hu' L w' hun hbe hD
            have hu4 : u' 4 = x4 := (after_eq hu' (by kernel_rfl)).trans (by simp [upd])
            have hu6 : u' 6 = x6 := (after_eq hu' (by kernel_rfl)).trans (by simp [upd])
            have h4 := after_behind hbe (p := 4) (by kernel_rfl)
            have h6 := after_behind hbe (p := 6) (by kernel_rfl)
            have hw := hD.bel
            obtain ⟨q, hq, hqc, -, -⟩ := hD.r6 h6 (getD_tf hun)
            refine each_app (.tmp 37) (.tmp 39) 26 rfl wr.heap.size 9 1 16 elemStr (u' 4) l.length (strW l) (by rw [hu4]; rfl) (.slice (some ⟨q, 0, none⟩) 1 1) 1 (#[.string x]).toList (by rw [← hq, hu6]; rfl) (src_block hqc (by simp)) (hD.r4 h4 (getD_tf hun)) (by simp [Value.oneCell']) (by omega) (by unfold maxLen; omega) hw.size ?_
            intro v' w2 hr hg hn
            exact hD.a7 hun h4 h6 hr hg
          intro x7
          go_simp
          refine flowV_st rfl rfl (by intro u' L w' hun hbe hD; go_simp; first | exact ⟨hD.other 8 (by decide), rfl⟩ | exact hD.other 8 (by decide)) ?_
          go_simp
          refine flowV_st rfl rfl (by intro u' L w' hun hbe hD; go_simp; first | exact ⟨hD.other 9 (by decide), rfl⟩ | exact hD.other 9 (by decide)) ?_
          go_simp
          refine flowV_st rfl rfl (by intro u' L w' hun hbe hD; go_simp; first | exact ⟨hD.other 10 (by decide), rfl⟩ | exact hD.other 10 (by decide)) ?_
          go_simp
          refine flowV_ch rfl rfl ?_ ?_
          · intro u' hu' L w' hun hbe hD
            have hu7 : u' 7 = x7 := (after_eq hu' (by kernel_rfl)).trans (by simp [upd])
            have h7 := after_behind hbe (p := 7) (by kernel_rfl)
            have hw := hD.bel
            refine each_app (.tmp 40) (.tmp 43) 26 rfl wr.heap.size 9 1 16 elemStr (u' 7) (l.length + 1) ((strW l) ++ (#[.string x]).toList) (by rw [hu7]; rfl) _ ((l.length + 1) - (l.length + 1)) ([]) rfl (srcNil (by omega)) (hD.r7 h7 (getD_tf hun)) (by first | exact strW_cell _ | simp) (by omega) (by unfold maxLen; omega) hw.size ?_
            intro v' w2 hr hg hn
            rw [show l.length + 1 + ((l.length + 1) - (l.length + 1)) = (l.length + 1) by omega] at hr
            exact hD.a11 hun h7 hr hg
          intro x11
          go_simp
          refine flowV_ch rfl rfl ?_ ?_
          · intro u' hu' L w' hun hbe hD
            have hu11 : u' 11 = x11 := (after_eq hu' (by kernel_rfl)).trans (by simp [upd])
            have h11 := after_behind hbe (p := 11) (by kernel_rfl)
            go_simp
            rw [← hu11]
            exact hD.m12 hun h11
          intro x12
          go_simp
          refine flowV_nil ?_
          intro L w3 hL hD
          have hx12 : x12 = x11 := by have := hD.r12 (by simpa using hL 12 (by simp)); simpa [upd] using this
          have hrow : w3.ownsRow wr.heap.size 9 1 x11 (l.length + 1) ((strW l) ++ (#[.string x]).toList ++ ([])) := by have := hD.r11 (by simpa using hL 11 (by simp)); simpa [upd] using this
          have hbel3 := hD.bel
          subst hx12
          go_wp2
          refine bodyPost_ret (v := x12) (by simp only [results, Tryz.results79]; go_simp) rfl ⟨l ++ [x], _, rfl, ?_, by simp, by rw [wtS_snoc]; omega, hbel3⟩
          have := own_lower hrow HBS.out
          simpa [strW] using this
open Go.RowKit
theorem own_slice {w : World} {base n size : Nat} {e : TypeId} {v : Value} {xs : List Value} (h : w.ownsRow base e size v n xs) : ∃ p c, v = .slice p n c := by
  rcases h.2 with ⟨rfl, h0⟩ | ⟨g, cap, cur, rfl, _⟩
  · exact ⟨none, 0, by rw [h0]⟩
  · exact ⟨_, _, rfl⟩
theorem Kept.grownB {S : Nat → Prop} {w w1 w2 : World} (h : Kept S w w1) {v : Value} (hg : w1.grownBy w2 v.ownBlock) (hv : ∀ b, v.ownBlock = some b → S b) : Kept S w w2 :=
  ⟨hg.os.trans h.os, hg.tape.trans h.tape, hg.output.trans h.output, Nat.le_trans h.size hg.size, fun b hb hs => (hg.block b (Nat.lt_of_lt_of_le hb h.size) (fun e => hs (hv b e.symm))).trans (h.block b hb hs)⟩
theorem row4_cells {w : World} {k : Nat} {x0 x1 x2 x3 : Value} {t : TypeId} (h : w.heap[k]? = some (.cells #[x0, x1, x2, x3] t (0, 0))) :
    w.cell? ⟨k, 0, none⟩ = some x0 ∧ w.cell? ⟨k, 1, none⟩ = some x1 ∧ w.cell? ⟨k, 2, none⟩ = some x2 ∧ w.cell? ⟨k, 3, none⟩ = some x3 ∧ ∀ j, w.frozen? ⟨k, j, none⟩ = false := by
  refine ⟨?_, ?_, ?_, ?_, fun j => frozen_of_row w k j _ _ h⟩
  · rw [cell_of_row w k 0 _ _ (0, 0) h]; rfl
  · rw [cell_of_row w k 1 _ _ (0, 0) h]; rfl
  · rw [cell_of_row w k 2 _ _ (0, 0) h]; rfl
  · rw [cell_of_row w k 3 _ _ (0, 0) h]; rfl
theorem cellQ {w w' : World} {a : Addr} {v : Value} (hb : Below w.heap.size w w') (h : w.cell? a = some v) : w'.cell? a = some v := (hb.cell (World.block_lt_of_cell? w _ h)).trans h
def unitN : Array Value := #[.string ⟨#[]⟩, .slice none 0 0, .slice none 0 0, .string ⟨#[]⟩]
structure CloD (e eU : TypeId) (W : World) (x : Un) (u : Nat → Value) (L : Array Bool) (w : World) : Prop where
  bel : Below W.heap.size W w
  o10 : L.getD 10 false = true → L.getD 4 false = true ∧ L.getD 7 false = true
  o12 : L.getD 12 false = true → L.getD 10 false = true ∧ L.getD 11 false = true
  r4 : L.getD 4 false = true → w.ownsRow W.heap.size e 1 (u 4) x.incs.length (strW x.incs)
  r7 : L.getD 7 false = true → w.ownsRow W.heap.size e 1 (u 7) x.axs.length (strW x.axs)
  ap : L.getD 4 false = true → L.getD 7 false = true → ∀ g, (u 4).ownBlock = some g → (u 7).ownBlock ≠ some g
  b10 : L.getD 10 false = true → u 10 = .agg #[.string x.name, u 4, u 7, .string x.goal]
  a11 : L.getD 11 false = true → ∃ k, u 11 = .pointer (some ⟨k, 0, none⟩) ∧ W.heap.size ≤ k ∧ (L.getD 12 false = false → w.heap[k]? = some (.cells unitN eU (0, 0))) ∧ (L.getD 12 false = true → w.heap[k]? = some (.cells #[.string x.name, u 4, u 7, .string x.goal] eU (0, 0))) ∧ k < w.heap.size ∧ (L.getD 4 false = true → (u 4).ownBlock ≠ some k) ∧ (L.getD 7 false = true → (u 7).ownBlock ≠ some k)
section
variable {e eU : TypeId} {W w w' : World} {x : Un} {u : Nat → Value} {L : Array Bool} {v' : Value}
theorem CloD.start (hL : ∀ i, L.getD i false = false) : CloD e eU W x (fun _ => undef) L W.drew := by
  refine ⟨(Below.refl _ _).drew, ?_, ?_, ?_, ?_, ?_, ?_, ?_⟩ <;> (intro h; exact absurd h (by rw [hL]; decide))
theorem CloD.other (h : CloD e eU W x u L w) (k : Nat) (hk : k ∉ [4, 7, 10, 11, 12]) : CloD e eU W x u (L.setIfInBounds k true) w := by
  simp only [List.mem_cons, List.not_mem_nil, or_false, not_or] at hk
  obtain ⟨k4, k7, k10, k11, k12⟩ := hk
  obtain ⟨h1, h2, h3, h4, h5, h6, h7, h8⟩ := h
  refine ⟨h1, ?_, ?_, ?_, ?_, ?_, ?_, ?_⟩ <;> simp only [getD_set_ne false k4, getD_set_ne false k7, getD_set_ne false k10, getD_set_ne false k11, getD_set_ne false k12] <;> assumption
theorem CloD.c4 (h : CloD e eU W x u L w) (hun : L.getD 4 true = false) (hr : w'.ownsRow w.heap.size e 1 v' x.incs.length (strW x.incs)) (hb : Below w.heap.size w w') : CloD e eU W x (upd u 4 v') (L.setIfInBounds 4 true) w' := by
  have hn := getD_tf hun
  obtain ⟨h1, h2, h3, h4, h5, h6, h7, h8⟩ := h
  have n10 : L.getD 10 false = false := by
    cases h' : L.getD 10 false with
    | false => rfl
    | true => have := (h2 h').1; rw [hn] at this; cases this
  have n12 : L.getD 12 false = false := by
    cases h' : L.getD 12 false with
    | false => rfl
    | true => have := (h3 h').1; rw [n10] at this; cases this
  have hz := h1.size
  refine ⟨h1.trans (hb.mono hz), ?_, ?_, ?_, ?_, ?_, ?_, ?_⟩ <;> simp only [getD_set_ne false (show (4 : Nat) ≠ 7 by decide), getD_set_ne false (show (4 : Nat) ≠ 10 by decide), getD_set_ne false (show (4 : Nat) ≠ 11 by decide), getD_set_ne false (show (4 : Nat) ≠ 12 by decide), getD_now hun, upd_same, upd_other u _ (show (7 : Nat) ≠ 4 by decide), upd_other u _ (show (10 : Nat) ≠ 4 by decide), upd_other u _ (show (11 : Nat) ≠ 4 by decide)]
  · intro a; rw [n10] at a; cases a
  · exact h3
  · intro _; exact own_lower hr hz
  · intro a; exact own_below (h5 a) hb
  · intro _ a g hg e'
    have k1 := own_base hr g hg
    have k2 := own_lt' (h5 a) e'
    omega
  · intro a; rw [n10] at a; cases a
  · intro a
    obtain ⟨k, e1, e2, e3, e4, e5, e6, e7⟩ := h8 a
    have hz2 := hb.size
    exact ⟨k, e1, e2, fun c => (hb.block k e5).trans (e3 c), fun c => (by rw [n12] at c; cases c), by omega, fun _ e' => by have := own_base hr k e'; omega, e7⟩
theorem CloD.c7 (h : CloD e eU W x u L w) (hun : L.getD 7 true = false) (hr : w'.ownsRow w.heap.size e 1 v' x.axs.length (strW x.axs)) (hb : Below w.heap.size w w') : CloD e eU W x (upd u 7 v') (L.setIfInBounds 7 true) w' := by
  have hn := getD_tf hun
  obtain ⟨h1, h2, h3, h4, h5, h6, h7, h8⟩ := h
  have n10 : L.getD 10 false = false := by
    cases h' : L.getD 10 false with
    | false => rfl
    | true => have := (h2 h').2; rw [hn] at this; cases this
  have n12 : L.getD 12 false = false := by
    cases h' : L.getD 12 false with
    | false => rfl
    | true => have := (h3 h').1; rw [n10] at this; cases this
  have hz := h1.size
  refine ⟨h1.trans (hb.mono hz), ?_, ?_, ?_, ?_, ?_, ?_, ?_⟩ <;> simp only [getD_set_ne false (show (7 : Nat) ≠ 4 by decide), getD_set_ne false (show (7 : Nat) ≠ 10 by decide), getD_set_ne false (show (7 : Nat) ≠ 11 by decide), getD_set_ne false (show (7 : Nat) ≠ 12 by decide), getD_now hun, upd_same, upd_other u _ (show (4 : Nat) ≠ 7 by decide), upd_other u _ (show (10 : Nat) ≠ 7 by decide), upd_other u _ (show (11 : Nat) ≠ 7 by decide)]
  · intro a; rw [n10] at a; cases a
  · exact h3
  · intro a; exact own_below (h4 a) hb
  · intro _; exact own_lower hr hz
  · intro a _ g hg e'
    have k1 := own_base hr g e'
    have k2 := own_lt' (h4 a) hg
    omega
  · intro a; rw [n10] at a; cases a
  · intro a
    obtain ⟨k, e1, e2, e3, e4, e5, e6, e7⟩ := h8 a
    have hz2 := hb.size
    exact ⟨k, e1, e2, fun c => (hb.block k e5).trans (e3 c), fun c => (by rw [n12] at c; cases c), by omega, e6, fun _ e' => by have := own_base hr k e'; omega⟩
theorem CloD.m10 (h : CloD e eU W x u L w) (hun : L.getD 10 true = false) (k4 : L.getD 4 false = true) (k7 : L.getD 7 false = true) : CloD e eU W x (upd u 10 (.agg #[.string x.name, u 4, u 7, .string x.goal])) (L.setIfInBounds 10 true) w := by
  obtain ⟨h1, h2, h3, h4, h5, h6, h7, h8⟩ := h
  have hn := getD_tf hun
  refine ⟨h1, ?_, ?_, ?_, ?_, ?_, ?_, ?_⟩ <;> simp only [getD_set_ne false (show (10 : Nat) ≠ 4 by decide), getD_set_ne false (show (10 : Nat) ≠ 7 by decide), getD_set_ne false (show (10 : Nat) ≠ 11 by decide), getD_set_ne false (show (10 : Nat) ≠ 12 by decide), getD_now hun, upd_same, upd_other u _ (show (4 : Nat) ≠ 10 by decide), upd_other u _ (show (7 : Nat) ≠ 10 by decide), upd_other u _ (show (11 : Nat) ≠ 10 by decide)]
  · intro _; exact ⟨k4, k7⟩
  · intro a; exact ⟨trivial, (h3 a).2⟩
  · exact h4
  · exact h5
  · exact h6
  · intro _; trivial
  · exact h8
theorem CloD.a11' (h : CloD e eU W x u L w) (hun : L.getD 11 true = false) : CloD e eU W x (upd u 11 (.pointer (some ⟨w.heap.size, 0, none⟩))) (L.setIfInBounds 11 true) (w.alloc (.cells unitN eU)) := by
  have hb := (Below.refl w.heap.size w).alloc (Nat.le_refl _) (.cells unitN eU)
  have hn := getD_tf hun
  obtain ⟨h1, h2, h3, h4, h5, h6, h7, h8⟩ := h
  have n12 : L.getD 12 false = false := by
    cases h' : L.getD 12 false with
    | false => rfl
    | true => have := (h3 h').2; rw [hn] at this; cases this
  refine ⟨h1.alloc h1.size _, ?_, ?_, ?_, ?_, ?_, ?_, ?_⟩ <;> simp only [getD_set_ne false (show (11 : Nat) ≠ 4 by decide), getD_set_ne false (show (11 : Nat) ≠ 7 by decide), getD_set_ne false (show (11 : Nat) ≠ 10 by decide), getD_set_ne false (show (11 : Nat) ≠ 12 by decide), getD_now hun, upd_same, upd_other u _ (show (4 : Nat) ≠ 11 by decide), upd_other u _ (show (7 : Nat) ≠ 11 by decide), upd_other u _ (show (10 : Nat) ≠ 11 by decide)]
  · exact h2
  · intro a; rw [n12] at a; cases a
  · intro a; exact own_below (h4 a) hb
  · intro a; exact own_below (h5 a) hb
  · exact h6
  · exact h7
  · intro _
    exact ⟨_, rfl, h1.size, fun _ => heap_alloc_new w _, fun c => (by rw [n12] at c; cases c), by simp, fun a e' => by have := own_lt' (h4 a) e'; omega, fun a e' => by have := own_lt' (h5 a) e'; omega⟩
theorem CloD.s12 (h : CloD e eU W x u L w) (hun : L.getD 12 true = false) (k10 : L.getD 10 false = true) (k11 : L.getD 11 false = true) {k : Nat} (hk : u 11 = .pointer (some ⟨k, 0, none⟩)) : CloD e eU W x (upd u 12 v') (L.setIfInBounds 12 true) (set4W w k 0 (.string x.name) (u 4) (u 7) (.string x.goal)) := by
  have hn := getD_tf hun
  obtain ⟨h1, h2, h3, h4, h5, h6, h7, h8⟩ := h
  obtain ⟨k', e1, e2, e3, e4, e5, e6, e7⟩ := h8 k11
  rw [hk] at e1
  injection e1 with e1
  injection e1 with e1
  injection e1 with e1
  subst e1
  obtain ⟨k4, k7⟩ := h2 k10
  have hsame : ∀ b, b ≠ k → (set4W w k 0 (.string x.name) (u 4) (u 7) (.string x.goal)).heap[b]? = w.heap[b]? := fun b hb => set4_other w _ _ _ _ hb
  refine ⟨⟨h1.os, h1.tape, h1.output, by simpa using h1.size, fun b hb => (hsame b (by omega)).trans (h1.block b hb)⟩, ?_, ?_, ?_, ?_, ?_, ?_, ?_⟩ <;> simp only [getD_set_ne false (show (12 : Nat) ≠ 4 by decide), getD_set_ne false (show (12 : Nat) ≠ 7 by decide), getD_set_ne false (show (12 : Nat) ≠ 10 by decide), getD_set_ne false (show (12 : Nat) ≠ 11 by decide), getD_now hun, upd_other u _ (show (4 : Nat) ≠ 12 by decide), upd_other u _ (show (7 : Nat) ≠ 12 by decide), upd_other u _ (show (10 : Nat) ≠ 12 by decide), upd_other u _ (show (11 : Nat) ≠ 12 by decide)]
  · exact h2
  · intro _; exact ⟨k10, k11⟩
  · intro a; exact own_same (h4 a) fun g hg _ => hsame g (fun e' => e6 k4 (by rw [hg, e']))
  · intro a; exact own_same (h5 a) fun g hg _ => hsame g (fun e' => e7 k7 (by rw [hg, e']))
  · exact h6
  · exact h7
  · intro _
    refine ⟨k, hk, e2, fun c => (by cases c), fun _ => ?_, by simpa using e5, e6, e7⟩
    have := heap_setCell_same _ k 3 _ _ (.string x.goal) (heap_setCell_same _ k 2 _ _ (u 7) (heap_setCell_same _ k 1 _ _ (u 4) (heap_setCell_same w k 0 _ _ (.string x.name) (e3 hn))))
    simpa [unitN] using this
end
open Go.RowKit
theorem run_app_nil {P : Program} (w : World) (base : Nat) (t ty e : TypeId) (size bytes : Nat) (hE : Elem P t e size bytes) (v : Value) (n : Nat) (xs : List Value) (hown : w.ownsRow base e size v n xs) (c : Nat) :
    (Builtin.append_ #[t, t] ty #[v, .slice none 0 c]).run P w = .ok v w := by
  obtain ⟨ht, i, z, hi, -⟩ := hE
  rcases hown.2 with ⟨rfl, rfl⟩ | ⟨g, cap, cur, rfl, _, _, hnc, _⟩
  · simp [Builtin.append_, run_underlying ht, sizeOf, typeInfo, hi, Builtin.lenOf, Builtin.firstCells]
  · simp [Builtin.append_, run_underlying ht, sizeOf, typeInfo, hi, Builtin.lenOf, Builtin.firstCells, hnc, storeCells]
theorem each_appS {P : Program} {w : World} {o : Oper} {a : Act} {E : Value → World → Prop} (s x : Operand) (t : TypeId) (ho : o.op = .call { callee := .builtin .append, args := #[s, x], argTypes := #[t, t] })
    (base : Nat) (e : TypeId) (bytes : Nat) (hE : Elem P t e 1 bytes)
    (v : Value) (n : Nat) (xs : List Value) (hs : a.eval s = v) (v2 : Value) {B : Nat → Prop} (us : List ByteArray) (hx : a.eval x = v2) (hsrc : StrsAt B w v2 us)
    (hown : w.ownsRow base e 1 v n xs) (hbytes : (n + us.length) * bytes ≤ 140737488355328) (h63 : n + us.length ≤ maxLen) (hbase : base ≤ w.heap.size)
    (h : ∀ v' w', w'.ownsRow base e 1 v' (n + us.length) (xs ++ strW us) → w.grownBy w' v.ownBlock → NewRow v v' w.heap.size → E v' w') : eachUpon P E ((execOp a.eval o).run P w) := by
  have h1 : ∀ u ∈ strW us, u.oneCell' = true := fun u hu => by
    rw [strW, List.mem_map] at hu
    obtain ⟨s, -, rfl⟩ := hu; rfl
  obtain ⟨p, c, rfl, -⟩ := hsrc.form
  cases p with
  | some b =>
    cases us with
    | nil =>
      obtain ⟨ht, i, z, hi, hz, hsz, hby, hzs, hpos⟩ := hE
      obtain ⟨v', w', hr, h2, h3, _, h5⟩ := run_append_own_at (P := P) w base t o.type e i z 1 bytes ht hi hz hsz hby hzs hpos v n xs hown b 0 c [] rfl (fun j u hu => by simp at hu) (by simp) (by simpa using h63) (by simpa using hbytes) hbase
      unfold execOp
      simp only [ho, resolve, invoke, builtin, Sem.run_bind, Sem.run_pure, Result.andThen_ok, List.map_toArray, List.map_cons, List.map_nil, hs, hx]
      simp only [List.length_nil]
      rw [hr]
      exact h _ _ h2 h3 (by
        rcases h5 with h5 | h5
        · exact .inl h5
        · exact .inr ⟨_, h5, Nat.le_refl _⟩)
    | cons a us =>
      obtain ⟨b', o', hq, -⟩ := hsrc.at_ (i := 0) (by simp)
      obtain rfl : b = ⟨b', o', none⟩ := Option.some.inj hq
      exact each_app s x t ho base e 1 bytes hE v n xs hs _ _ _ hx (src_strs hsrc (.inr ⟨_, _, _, rfl⟩)) hown h1 hbytes h63 hbase h
  | none =>
    have h0 : us.length = 0 := by
      rcases Nat.eq_zero_or_pos us.length with h0 | h0
      · exact h0
      · obtain ⟨b', o', h2, -⟩ := hsrc.at_ (i := 0) h0
        cases h2
    obtain rfl : us = [] := List.eq_nil_of_length_eq_zero h0
    have hrun := run_app_nil (P := P) w base t o.type e 1 bytes hE v n xs hown c
    unfold execOp
    simp only [ho, resolve, invoke, builtin, Sem.run_bind, Sem.run_pure, Result.andThen_ok, List.map_toArray, List.map_cons, List.map_nil, hs, hx]
    simp only [List.length_nil] at hrun ⊢
    rw [hrun]
    exact h _ _ (by simpa [strW] using hown) ⟨rfl, rfl, rfl, Nat.le_refl _, fun _ _ _ => rfl⟩ (.inl rfl)
structure CloE (e eU : TypeId) (W : World) (x : Un) (u : Nat → Value) (L : Array Bool) (w : World) : Prop where
  bel : Below W.heap.size W w
  o11 : L.getD 11 false = true → L.getD 5 false = true
  o17 : L.getD 17 false = true → L.getD 11 false = true
  o19 : L.getD 19 false = true → L.getD 17 false = true ∧ L.getD 18 false = true
  r5 : L.getD 5 false = true → L.getD 11 false = false → w.ownsRow W.heap.size e 1 (u 5) 0 []
  r11 : L.getD 11 false = true → w.ownsRow W.heap.size e 1 (u 11) x.axs.length (strW x.axs)
  b17 : L.getD 17 false = true → u 17 = .agg #[.string x.name, .slice none 0 0, u 11, .string x.goal]
  a18 : L.getD 18 false = true → ∃ k, u 18 = .pointer (some ⟨k, 0, none⟩) ∧ W.heap.size ≤ k ∧ (L.getD 19 false = false → w.heap[k]? = some (.cells unitN eU (0, 0))) ∧ (L.getD 19 false = true → w.heap[k]? = some (.cells #[.string x.name, .slice none 0 0, u 11, .string x.goal] eU (0, 0))) ∧ k < w.heap.size ∧ (L.getD 5 false = true → L.getD 11 false = false → (u 5).ownBlock ≠ some k) ∧ (L.getD 11 false = true → (u 11).ownBlock ≠ some k)
section
variable {e eU : TypeId} {W w w' : World} {x : Un} {u : Nat → Value} {L : Array Bool} {v' : Value}
theorem CloE.start (hL : ∀ i, L.getD i false = false) : CloE e eU W x (fun _ => undef) L W.drew := by
  refine ⟨(Below.refl _ _).drew, ?_, ?_, ?_, ?_, ?_, ?_, ?_⟩ <;> (intro h; exact absurd h (by rw [hL]; decide))
theorem CloE.other (h : CloE e eU W x u L w) (k : Nat) (hk : k ∉ [5, 11, 17, 18, 19]) : CloE e eU W x u (L.setIfInBounds k true) w := by
  simp only [List.mem_cons, List.not_mem_nil, or_false, not_or] at hk
  obtain ⟨k5, k11, k17, k18, k19⟩ := hk
  obtain ⟨h1, h2, h3, h4, h5, h6, h7, h8⟩ := h
  refine ⟨h1, ?_, ?_, ?_, ?_, ?_, ?_, ?_⟩ <;> simp only [getD_set_ne false k5, getD_set_ne false k11, getD_set_ne false k17, getD_set_ne false k18, getD_set_ne false k19] <;> assumption
theorem CloE.b5 (h : CloE e eU W x u L w) (hun : L.getD 5 true = false) : CloE e eU W x (upd u 5 (.slice (some ⟨w.heap.size, 0, none⟩) 0 0)) (L.setIfInBounds 5 true) (w.alloc (.cells #[] e)) := by
  have hb := (Below.refl w.heap.size w).alloc (Nat.le_refl _) (.cells #[] e)
  have hn := getD_tf hun
  obtain ⟨h1, h2, h3, h4, h5, h6, h7, h8⟩ := h
  have n11 : L.getD 11 false = false := by
    cases h' : L.getD 11 false with
    | false => rfl
    | true => have := h2 h'; rw [hn] at this; cases this
  refine ⟨h1.alloc h1.size _, ?_, ?_, ?_, ?_, ?_, ?_, ?_⟩ <;> simp only [getD_set_ne false (show (5 : Nat) ≠ 11 by decide), getD_set_ne false (show (5 : Nat) ≠ 17 by decide), getD_set_ne false (show (5 : Nat) ≠ 18 by decide), getD_set_ne false (show (5 : Nat) ≠ 19 by decide), getD_now hun, n11, upd_same, upd_other u _ (show (11 : Nat) ≠ 5 by decide), upd_other u _ (show (17 : Nat) ≠ 5 by decide), upd_other u _ (show (18 : Nat) ≠ 5 by decide)]
  · intro h; cases h
  · intro h; have := h3 h; rw [n11] at this; cases this
  · exact h4
  · intro _ _; exact row_empty w _ e 1 h1.size
  · intro h; cases h
  · exact h7
  · intro a
    obtain ⟨k, e1, e2, e3, e4, e5, e6, e7⟩ := h8 a
    exact ⟨k, e1, e2, fun c => (hb.block k e5).trans (e3 c), fun c => (hb.block k e5).trans (e4 c), by simp; omega, fun _ _ => by simp only [Value.ownBlock, ne_eq, Option.some.injEq]; omega, fun h => by cases h⟩
theorem CloE.a11 (h : CloE e eU W x u L w) (hun : L.getD 11 true = false) (k5 : L.getD 5 false = true) (hr : w'.ownsRow W.heap.size e 1 v' (0 + x.axs.length) ([] ++ strW x.axs)) (hg : w.grownBy w' (u 5).ownBlock) (hnr : NewRow (u 5) v' w.heap.size) : CloE e eU W x (upd u 11 v') (L.setIfInBounds 11 true) w' := by
  have hn := getD_tf hun
  obtain ⟨h1, h2, h3, h4, h5, h6, h7, h8⟩ := h
  have n17 : L.getD 17 false = false := by
    cases h' : L.getD 17 false with
    | false => rfl
    | true => have := h3 h'; rw [hn] at this; cases this
  have n19 : L.getD 19 false = false := by
    cases h' : L.getD 19 false with
    | false => rfl
    | true => have := (h4 h').1; rw [n17] at this; cases this
  have ho := h5 k5 hn
  rw [Nat.zero_add, List.nil_append] at hr
  refine ⟨h1.grown hg h1.size (fun k hk => own_base ho k hk), ?_, ?_, ?_, ?_, ?_, ?_, ?_⟩ <;> simp only [getD_set_ne false (show (11 : Nat) ≠ 5 by decide), getD_set_ne false (show (11 : Nat) ≠ 17 by decide), getD_set_ne false (show (11 : Nat) ≠ 18 by decide), getD_set_ne false (show (11 : Nat) ≠ 19 by decide), getD_now hun, n17, n19, k5, upd_same, upd_other u _ (show (5 : Nat) ≠ 11 by decide), upd_other u _ (show (17 : Nat) ≠ 11 by decide), upd_other u _ (show (18 : Nat) ≠ 11 by decide)]
  · intro _; trivial
  · intro h; cases h
  · intro h; cases h
  · intro _ h; cases h
  · intro _; exact hr
  · intro h; cases h
  · intro a
    obtain ⟨k, e1, e2, e3, e4, e5, e6, e7⟩ := h8 a
    have hz := hg.size
    exact ⟨k, e1, e2, fun _ => (hg.block k e5 (fun e => e6 k5 hn e.symm)).trans (e3 n19), fun c => (by cases c), by omega, fun _ h => (by cases h), fun _ => newRow_ne hnr e5 (e6 k5 hn)⟩
theorem CloE.m17 (h : CloE e eU W x u L w) (hun : L.getD 17 true = false) (k11 : L.getD 11 false = true) : CloE e eU W x (upd u 17 (.agg #[.string x.name, .slice none 0 0, u 11, .string x.goal])) (L.setIfInBounds 17 true) w := by
  obtain ⟨h1, h2, h3, h4, h5, h6, h7, h8⟩ := h
  refine ⟨h1, ?_, ?_, ?_, ?_, ?_, ?_, ?_⟩ <;> simp only [getD_set_ne false (show (17 : Nat) ≠ 5 by decide), getD_set_ne false (show (17 : Nat) ≠ 11 by decide), getD_set_ne false (show (17 : Nat) ≠ 18 by decide), getD_set_ne false (show (17 : Nat) ≠ 19 by decide), getD_now hun, upd_same, upd_other u _ (show (5 : Nat) ≠ 17 by decide), upd_other u _ (show (11 : Nat) ≠ 17 by decide), upd_other u _ (show (18 : Nat) ≠ 17 by decide)]
  · exact h2
  · intro _; exact k11
  · intro a; exact ⟨trivial, (h4 a).2⟩
  · exact h5
  · exact h6
  · intro _; trivial
  · exact h8
theorem CloE.a18' (h : CloE e eU W x u L w) (hun : L.getD 18 true = false) : CloE e eU W x (upd u 18 (.pointer (some ⟨w.heap.size, 0, none⟩))) (L.setIfInBounds 18 true) (w.alloc (.cells unitN eU)) := by
  have hb := (Below.refl w.heap.size w).alloc (Nat.le_refl _) (.cells unitN eU)
  have hn := getD_tf hun
  obtain ⟨h1, h2, h3, h4, h5, h6, h7, h8⟩ := h
  have n19 : L.getD 19 false = false := by
    cases h' : L.getD 19 false with
    | false => rfl
    | true => have := (h4 h').2; rw [hn] at this; cases this
  refine ⟨h1.alloc h1.size _, ?_, ?_, ?_, ?_, ?_, ?_, ?_⟩ <;> simp only [getD_set_ne false (show (18 : Nat) ≠ 5 by decide), getD_set_ne false (show (18 : Nat) ≠ 11 by decide), getD_set_ne false (show (18 : Nat) ≠ 17 by decide), getD_set_ne false (show (18 : Nat) ≠ 19 by decide), getD_now hun, upd_same, upd_other u _ (show (5 : Nat) ≠ 18 by decide), upd_other u _ (show (11 : Nat) ≠ 18 by decide), upd_other u _ (show (17 : Nat) ≠ 18 by decide)]
  · exact h2
  · exact h3
  · intro a; rw [n19] at a; cases a
  · intro a b; exact own_below (h5 a b) hb
  · intro a; exact own_below (h6 a) hb
  · exact h7
  · intro _
    exact ⟨_, rfl, h1.size, fun _ => heap_alloc_new w _, fun c => (by rw [n19] at c; cases c), by simp, fun a b e' => by have := own_lt' (h5 a b) e'; omega, fun a e' => by have := own_lt' (h6 a) e'; omega⟩
theorem CloE.s19 (h : CloE e eU W x u L w) (hun : L.getD 19 true = false) (k17 : L.getD 17 false = true) (k18 : L.getD 18 false = true) {k : Nat} (hk : u 18 = .pointer (some ⟨k, 0, none⟩)) : CloE e eU W x (upd u 19 v') (L.setIfInBounds 19 true) (set4W w k 0 (.string x.name) (.slice none 0 0) (u 11) (.string x.goal)) := by
  have hn := getD_tf hun
  obtain ⟨h1, h2, h3, h4, h5, h6, h7, h8⟩ := h
  obtain ⟨k', e1, e2, e3, e4, e5, e6, e7⟩ := h8 k18
  rw [hk] at e1
  injection e1 with e1
  injection e1 with e1
  injection e1 with e1
  subst e1
  have k11 := h3 k17
  have hsame : ∀ b, b ≠ k → (set4W w k 0 (.string x.name) (.slice none 0 0) (u 11) (.string x.goal)).heap[b]? = w.heap[b]? := fun b hb => set4_other w _ _ _ _ hb
  refine ⟨⟨h1.os, h1.tape, h1.output, by simpa using h1.size, fun b hb => (hsame b (by omega)).trans (h1.block b hb)⟩, ?_, ?_, ?_, ?_, ?_, ?_, ?_⟩ <;> simp only [getD_set_ne false (show (19 : Nat) ≠ 5 by decide), getD_set_ne false (show (19 : Nat) ≠ 11 by decide), getD_set_ne false (show (19 : Nat) ≠ 17 by decide), getD_set_ne false (show (19 : Nat) ≠ 18 by decide), getD_now hun, upd_other u _ (show (5 : Nat) ≠ 19 by decide), upd_other u _ (show (11 : Nat) ≠ 19 by decide), upd_other u _ (show (17 : Nat) ≠ 19 by decide), upd_other u _ (show (18 : Nat) ≠ 19 by decide)]
  · exact h2
  · exact h3
  · intro _; exact ⟨k17, k18⟩
  · intro a b; rw [k11] at b; cases b
  · intro a; exact own_same (h6 a) fun g hg _ => hsame g (fun e' => e7 k11 (by rw [hg, e']))
  · exact h7
  · intro _
    refine ⟨k, hk, e2, fun c => (by cases c), fun _ => ?_, by simpa using e5, e6, e7⟩
    have := heap_setCell_same _ k 3 _ _ (.string x.goal) (heap_setCell_same _ k 2 _ _ (u 11) (heap_setCell_same _ k 1 _ _ (.slice none 0 0) (heap_setCell_same w k 0 _ _ (.string x.name) (e3 hn))))
    simpa [unitN] using this
end
open Go.RowKit
set_option maxRecDepth 100000 in
set_option maxHeartbeats 1600000 in
theorem spoilt_any (g m : Nat) (t q : ByteArray) (w : World) (h : Cur w g m) (hm : m + 6 ≤ 1000000000) (ht : t.size ≤ 1000000) (hq : 0 < q.size) (hq2 : q.size ≤ 1000) :
    Calls Tryz.prog 66 #[.pointer (some ⟨g, 0, none⟩), .string t, .string q] w (Step g m 6 (IsStr (t.size + 1)) w) := by
  have H := Lib.hid h
  clear h
  cases he : t.data.toList.isEmpty
  · have he1 := empt_f he
    have ht0 : 0 < t.size := by
      rw [size_list]; cases hl : t.data.toList with
      | nil => rw [hl] at he; cases he
      | cons x l => simp
    go_enter Tryz.func66, Tryz.ntmps66
    go_wp2_with fail
    refine (pick_any g m _ _ H.out (by omega) (by omega) (by omega)).mono ?_
    rintro e w1 ⟨_, rfl, ⟨r1, rfl, hr1, hs1⟩, hc1, hg1⟩
    obtain ⟨i, rfl⟩ := Int.eq_ofNat_of_zero_le hr1
    have hi : i < t.size := by omega
    have hi2 : i ≤ t.size := by omega
    have hi3 : i + 1 ≤ t.size := by omega
    have hwi : IntKind.i64.wrap ((i : Int) + 1) = (i : Int) + 1 := IntWalk.i64_in _ (by omega)
    have hwi2 : ((i : Int) + 1).toNat = i + 1 := by omega
    have hwi3 : 0 ≤ (i : Int) + 1 := by omega
    have hwi4 : (i : Int) + 1 ≤ (t.size : Int) := by omega
    have HSZ := Lib.hid (And.intro ht hi)
    have HC1 := Lib.hid hc1
    clear hc1
    go_wp2_with fail
    refine (pick_any g (m + 2) _ _ HC1.out (by omega) (by omega) (by omega)).mono ?_
    rintro e w2 ⟨_, rfl, ⟨r2, rfl, hr2, hs2⟩, hc2, hg2⟩
    obtain ⟨j, rfl⟩ := Int.eq_ofNat_of_zero_le hr2
    have hj : j < q.size := by omega
    have HC2 := Lib.hid hc2
    clear hc2
    obtain ⟨x, hx⟩ : ∃ x, (q.extract j q.size).extract 0 1 = x := ⟨_, rfl⟩
    have hx1 : x.size ≤ 1 := by rw [← hx]; simp; omega
    go_wp2_with fail
    refine (pick_any g (m + 4) _ _ HC2.out (by omega) (by omega) (by omega)).mono ?_
    rintro e w3 ⟨_, rfl, ⟨r3, rfl, hr3, hs3⟩, hc3, hg3⟩
    have HC3 := Lib.hid hc3
    have HG := Lib.hid (gr_trans (gr_trans hg1 hg2) hg3)
    clear hc3 hg1 hg2 hg3
    clear hx
    rcases (by omega : r3 = 0 ∨ r3 = 1 ∨ r3 = 2) with rfl | rfl | rfl
    · go_wp2
      obtain ⟨C, HC0⟩ := class_of (InF w3.heap.size _ [] [] [])
      have HC := Lib.hid HC0
      clear HC0
      refine wp_region_flow (C := C) (by kernel_rfl) (by kernel_rfl) (fun L hL => (HC.out _ _).2 (InF.start (by first | (intro _ hs; cases hs; done) | (simp only [List.forall_mem_cons]; go_simp)) (by first | (intro _ hs; cases hs; done) | (simp only [List.forall_mem_cons]; go_simp)) (by first | (intro _ hs; cases hs; done) | (simp only [List.forall_mem_cons]; go_simp)) (by first | (intro _ hs; cases hs; done) | (simp only [List.forall_mem_cons]; go_simp)) L hL)) ?_
      repeat (first | ((first | apply flow_free rfl | (apply flow_yes; (case hw => go_simp))); (intro L w' hun hrd hC; have hC := (HC.out _ _).1 hC; have hb' := hC.below; have hf' := hC.cell; (try simp only [List.forall_mem_cons] at hf'); go_simp; first | exact ⟨(HC.out _ _).2 (hC.skip _ (by rfl)), rfl⟩ | (rw [if_neg]; (exact ⟨(HC.out _ _).2 (hC.skip _ (by rfl)), rfl⟩); omega) | fail); go_simp) | (apply flow_no; (case hw => (go_simp; try (intro hh; cases hh))); (intro L w' _ _ hC; exact (HC.out _ _).2 (((HC.out _ _).1 hC).skip _ (by rfl))); go_simp))
      refine flow_nil ?_
      intro L wz hL hz
      have hz := (HC.out _ _).1 hz
      have hbz := hz.below
      have hcz := hz.cell
      try simp only [List.forall_mem_cons] at hcz
      have hdz := hz.done
      try simp only [List.forall_mem_cons] at hdz
      (try have hwz : Below w.heap.size w wz := by first | exact Below.trans (by (repeat (first | with_reducible (first | exact bR _ _ | assumption | refine bA ?_ _ | refine bS ?_ (by first | exact Nat.le_refl _ | (simp; done) | (simp; omega)) _) | assumption | exact bR _ _ | refine bD ?_ | refine bN ?_ _ | refine bT ?_ (by assumption)))) hbz | ((repeat (first | with_reducible (first | exact bR _ _ | assumption | refine bA ?_ _ | refine bS ?_ (by first | exact Nat.le_refl _ | (simp; done) | (simp; omega)) _) | assumption | exact bR _ _ | refine bD ?_ | refine bN ?_ _ | refine bT ?_ (by assumption))); done))
      go_wp2
      go_ret
      refine ⟨_, rfl, ⟨_, rfl, ?_⟩, HC3.out.below hbz, gr_below HG.out hbz⟩
      have h1 := HSZ.out
      simp only [size_list, bytes_append', extract_list, List.length_append, List.length_drop, List.length_take] at h1 hx1 ⊢
      omega
    · go_wp2
      obtain ⟨C, HC0⟩ := class_of (InF w3.heap.size _ [] [] [])
      have HC := Lib.hid HC0
      clear HC0
      refine wp_region_flow (C := C) (by kernel_rfl) (by kernel_rfl) (fun L hL => (HC.out _ _).2 (InF.start (by first | (intro _ hs; cases hs; done) | (simp only [List.forall_mem_cons]; go_simp)) (by first | (intro _ hs; cases hs; done) | (simp only [List.forall_mem_cons]; go_simp)) (by first | (intro _ hs; cases hs; done) | (simp only [List.forall_mem_cons]; go_simp)) (by first | (intro _ hs; cases hs; done) | (simp only [List.forall_mem_cons]; go_simp)) L hL)) ?_
      repeat (first | ((first | apply flow_free rfl | (apply flow_yes; (case hw => go_simp))); (intro L w' hun hrd hC; have hC := (HC.out _ _).1 hC; have hb' := hC.below; have hf' := hC.cell; (try simp only [List.forall_mem_cons] at hf'); go_simp; first | exact ⟨(HC.out _ _).2 (hC.skip _ (by rfl)), rfl⟩ | (rw [if_neg]; (exact ⟨(HC.out _ _).2 (hC.skip _ (by rfl)), rfl⟩); omega) | fail); go_simp) | (apply flow_no; (case hw => (go_simp; try (intro hh; cases hh))); (intro L w' _ _ hC; exact (HC.out _ _).2 (((HC.out _ _).1 hC).skip _ (by rfl))); go_simp))
      refine flow_nil ?_
      intro L wz hL hz
      have hz := (HC.out _ _).1 hz
      have hbz := hz.below
      have hcz := hz.cell
      try simp only [List.forall_mem_cons] at hcz
      have hdz := hz.done
      try simp only [List.forall_mem_cons] at hdz
      (try have hwz : Below w.heap.size w wz := by first | exact Below.trans (by (repeat (first | with_reducible (first | exact bR _ _ | assumption | refine bA ?_ _ | refine bS ?_ (by first | exact Nat.le_refl _ | (simp; done) | (simp; omega)) _) | assumption | exact bR _ _ | refine bD ?_ | refine bN ?_ _ | refine bT ?_ (by assumption)))) hbz | ((repeat (first | with_reducible (first | exact bR _ _ | assumption | refine bA ?_ _ | refine bS ?_ (by first | exact Nat.le_refl _ | (simp; done) | (simp; omega)) _) | assumption | exact bR _ _ | refine bD ?_ | refine bN ?_ _ | refine bT ?_ (by assumption))); done))
      go_wp2
      go_ret
      refine ⟨_, rfl, ⟨_, rfl, ?_⟩, HC3.out.below hbz, gr_below HG.out hbz⟩
      have h1 := HSZ.out
      simp only [size_list, bytes_append', extract_list, List.length_append, List.length_drop, List.length_take] at h1 hx1 ⊢
      omega
    · go_wp2
      obtain ⟨C, HC0⟩ := class_of (InF w3.heap.size _ [] [] [])
      have HC := Lib.hid HC0
      clear HC0
      refine wp_region_flow (C := C) (by kernel_rfl) (by kernel_rfl) (fun L hL => (HC.out _ _).2 (InF.start (by first | (intro _ hs; cases hs; done) | (simp only [List.forall_mem_cons]; go_simp)) (by first | (intro _ hs; cases hs; done) | (simp only [List.forall_mem_cons]; go_simp)) (by first | (intro _ hs; cases hs; done) | (simp only [List.forall_mem_cons]; go_simp)) (by first | (intro _ hs; cases hs; done) | (simp only [List.forall_mem_cons]; go_simp)) L hL)) ?_
      repeat (first | ((first | apply flow_free rfl | (apply flow_yes; (case hw => go_simp))); (intro L w' hun hrd hC; have hC := (HC.out _ _).1 hC; have hb' := hC.below; have hf' := hC.cell; (try simp only [List.forall_mem_cons] at hf'); go_simp; first | exact ⟨(HC.out _ _).2 (hC.skip _ (by rfl)), rfl⟩ | (rw [if_neg]; (exact ⟨(HC.out _ _).2 (hC.skip _ (by rfl)), rfl⟩); omega) | fail); go_simp) | (apply flow_no; (case hw => (go_simp; try (intro hh; cases hh))); (intro L w' _ _ hC; exact (HC.out _ _).2 (((HC.out _ _).1 hC).skip _ (by rfl))); go_simp))
      refine flow_nil ?_
      intro L wz hL hz
      have hz := (HC.out _ _).1 hz
      have hbz := hz.below
      have hcz := hz.cell
      try simp only [List.forall_mem_cons] at hcz
      have hdz := hz.done
      try simp only [List.forall_mem_cons] at hdz
      (try have hwz : Below w.heap.size w wz := by first | exact Below.trans (by (repeat (first | with_reducible (first | exact bR _ _ | assumption | refine bA ?_ _ | refine bS ?_ (by first | exact Nat.le_refl _ | (simp; done) | (simp; omega)) _) | assumption | exact bR _ _ | refine bD ?_ | refine bN ?_ _ | refine bT ?_ (by assumption)))) hbz | ((repeat (first | with_reducible (first | exact bR _ _ | assumption | refine bA ?_ _ | refine bS ?_ (by first | exact Nat.le_refl _ | (simp; done) | (simp; omega)) _) | assumption | exact bR _ _ | refine bD ?_ | refine bN ?_ _ | refine bT ?_ (by assumption))); done))
      go_wp2
      go_ret
      refine ⟨_, rfl, ⟨_, rfl, ?_⟩, HC3.out.below hbz, gr_below HG.out hbz⟩
      have h1 := HSZ.out
      simp only [size_list, bytes_append', extract_list, List.length_append, List.length_drop, List.length_take] at h1 hx1 ⊢
      omega
  · have he1 := empt_t he
    go_enter Tryz.func66, Tryz.ntmps66
    go_wp2
    go_ret
    refine ⟨_, rfl, ⟨_, rfl, ?_⟩, H.out.more (by omega) (by omega), gr_refl _ _⟩
    simp only [size_list, extract_list, List.length_drop, List.length_take]
    omega
open Go.RowKit
theorem of_lit (g m k n b : Nat) (W : World) (cs : Array Value) (t : TypeId) (hn : n = cs.size) (hb : b = W.heap.size) (h : Cur W g m) (hm : m + 2 ≤ 1000000000) (h0 : 0 < cs.size) (h1 : cs.size ≤ 1000000000) (hs : ∀ v ∈ cs, IsStr k v) :
    Calls Tryz.prog 70 #[.pointer (some ⟨g, 0, none⟩), .slice (some ⟨b, 0, none⟩) n n] (W.alloc (.cells cs t)) (Step g m 2 (IsStr k) (W.alloc (.cells cs t))) := by
  subst hn hb
  have hlt := h.lt
  exact of_any g m W.heap.size cs.size k cs t (0, 0) _ (h.below ((Below.refl _ _).alloc (Nat.le_refl _) _)) hm (heap_alloc_new W _) (by omega) h0 h1 hs
theorem Cur.al {w : World} {g m : Nat} (h : Cur w g m) (o : Obj) : Cur (w.alloc o) g m := h.below ((Below.refl _ _).alloc (Nat.le_refl _) o)
theorem Cur.sc {w : World} {g m : Nat} (h : Cur w g m) {p : Addr} (hp : g < p.block) (u : Value) : Cur (w.setCell p u) g m := by
  obtain ⟨v, a, s, h1, h2, h3, h4, h5, code, h6, h7⟩ := h
  exact ⟨v, a, s, (heap_setCell_other w p g u (fun e => by omega)).trans h1, h2, h3, h4, h5, code, h6, h7.mono (SameOn.store w (fun b hb e => by omega) u) (fun _ h => h) (fun _ _ _ h => h)⟩
open Go.RowKit
def StepO (g m k : Nat) (p : World → Value → Prop) (w : World) (e : Ending) (w' : World) : Prop :=
  ∃ v, e = .returned v ∧ p w' v ∧ Cur w' g (m + k) ∧ w.grownBy w' (some g)
theorem sameOn_grown {S : Nat → Prop} {w w' : World} {g : Nat} (hg : w.grownBy w' (some g)) (hS : ∀ b, S b → b ≠ g) : SameOn S w w' := fun b hb hlt => hg.block b hlt (by simpa using hS b hb)
open Go.RowKit
theorem Cur.own {w w' : World} {g m : Nat} {v : Value} (h : Cur w g m) (hg : w.grownBy w' v.ownBlock) (hv : ∀ b, v.ownBlock = some b → g < b) : Cur w' g m := by
  have hlt := h.lt
  obtain ⟨u, a, s, h1, h2, h3, h4, h5, code, h6, h7⟩ := h
  exact ⟨u, a, s, (hg.block g hlt (fun e => by have := hv g e.symm; omega)).trans h1, h2, h3, h4, h5, code, h6, h7.mono (fun b hb hlt => hg.block b hlt (fun e => by have := hv b e.symm; omega)) (fun _ h => h) (fun _ _ _ h => h)⟩
section
variable {α : Type} {R : (Nat → Prop) → World → α → List Value → Prop} {eT : TypeId} {sz : Nat} {mk : Value → Obj} {X : Nat → Prop} {w W W' W2 w3 : World} {g m m' bt ci : Nat} {v v' : Value} {xs : List α} {a : α}
end
open Go.RowKit
theorem Cur.kept {S : Nat → Prop} {w w' : World} {g m : Nat} (h : Cur w g m) (hk : Kept S w w') (hS : ∀ b, b ≤ g → ¬ S b) : Cur w' g m := by
  have hlt := h.lt
  obtain ⟨u, a, s, h1, h2, h3, h4, h5, code, h6, h7⟩ := h
  exact ⟨u, a, s, (hk.block g hlt (hS g (Nat.le_refl _))).trans h1, h2, h3, h4, h5, code, h6, h7.mono (fun b hb hlt => hk.block b hlt (hS b (Nat.le_of_lt hb))) (fun _ h => h) (fun _ _ _ h => h)⟩
theorem grown_kept {S : Nat → Prop} {w w1 w2 : World} {g : Nat} (h : w.grownBy w1 (some g)) (hk : Kept S w1 w2) (hS : ∀ b, S b → b = g ∨ w.heap.size ≤ b) : w.grownBy w2 (some g) :=
  ⟨hk.os.trans h.os, hk.tape.trans h.tape, hk.output.trans h.output, Nat.le_trans h.size hk.size, fun b hb hne => (hk.block b (Nat.lt_of_lt_of_le hb h.size) (fun hs => by
    rcases hS b hs with e | e
    · exact hne (by rw [e])
    · omega)).trans (h.block b hb hne)⟩
theorem kept_grown {S : Nat → Prop} {w1 w2 : World} {g : Nat} (h : w1.grownBy w2 (some g)) (hS : S g) : Kept S w1 w2 := ⟨h.os, h.tape, h.output, h.size, fun b hb hne => h.block b hb (fun e => by injection e with e; exact hne (e ▸ hS))⟩
theorem getD_set_mono {L : Array Bool} {k i : Nat} (h : L.getD i false = true) : (L.setIfInBounds k true).getD i false = true := by
  by_cases e : k = i
  · subst e
    have hk : k < L.size := by
      rcases Nat.lt_or_ge k L.size with h' | h'
      · exact h'
      · simp [Array.getElem?_eq_none h'] at h
    simp [hk]
  · rw [getD_set_ne false e]; exact h
structure UGs (w : World) (g m : Nat) (nm goal : ByteArray) (tc : Array Value) (incs axs : List ByteArray) (p4 : Option Addr) (c4 : Nat) (p7 : Option Addr) (c7 : Nat) (wr : World) : Prop where
  cur : Cur wr g m
  lt : g < w.heap.size
  gr : w.grownBy wr (some g)
  box0 : wr.heap[w.heap.size]? = some (.cells unitN 34 (0, 0))
  box1 : wr.heap[w.heap.size + 1]? = some (.cells #[.string nm, .slice p4 incs.length c4, .slice p7 axs.length c7, .string goal] 34 (0, 0))
  box2 : wr.heap[w.heap.size + 2]? = some (.cells tc 9 (0, 0))
  r4 : wr.ownsRow (w.heap.size + 3) 9 1 (.slice p4 incs.length c4) incs.length (strW incs)
  r7 : wr.ownsRow (w.heap.size + 3) 9 1 (.slice p7 axs.length c7) axs.length (strW axs)
  ap : ∀ b, (Value.slice p4 incs.length c4).ownBlock = some b → (Value.slice p7 axs.length c7).ownBlock ≠ some b
section
variable {w W w2 w3 : World} {g m m' : Nat} {nm goal x : ByteArray} {tc : Array Value} {incs axs : List ByteArray} {p4 p7 : Option Addr} {c4 c7 : Nat} {u : Nat → Value} {L : Array Bool} {v' : Value}
theorem UGs.later (h : UGs w g m nm goal tc incs axs p4 c4 p7 c7 W) (hg : W.grownBy w2 (some g)) (hc : Cur w2 g m') : UGs w g m' nm goal tc incs axs p4 c4 p7 c7 w2 := by
  have hl := h.lt
  have blk : ∀ b, b < W.heap.size → g < b → w2.heap[b]? = W.heap[b]? := fun b hb hgb => hg.block b hb (fun e => by injection e with e; omega)
  refine ⟨hc, hl, gr_trans h.gr hg, (blk _ (blk_lt h.box0) hl).trans h.box0, (blk _ (blk_lt h.box1) (by omega)).trans h.box1, (blk _ (blk_lt h.box2) (by omega)).trans h.box2, ?_, ?_, h.ap⟩
  · exact own_same h.r4 fun b hb hlt => blk b hlt (by have := own_base h.r4 b hb; omega)
  · exact own_same h.r7 fun b hb hlt => blk b hlt (by have := own_base h.r7 b hb; omega)
structure PutD (w : World) (nm goal x : ByteArray) (incs : List ByteArray) (W : World) (u : Nat → Value) (L : Array Bool) (w2 : World) : Prop where
  kept : Kept (fun b => b = w.heap.size + 1) W w2
  o8 : L.getD 8 false = true → L.getD 6 false = true
  b0 : L.getD 8 false = false → w2.heap[w.heap.size + 1]? = W.heap[w.heap.size + 1]?
  r6 : L.getD 6 false = true → ∃ incs' : List ByteArray, w2.ownsRow (w.heap.size + 3) 9 1 (u 6) incs'.length (strW incs') ∧ incs'.length ≤ incs.length + 1 ∧ wtS incs' ≤ wtS incs + x.size
  b8 : L.getD 8 false = true → w2.heap[w.heap.size + 1]? = some (.cells #[.string nm, u 6, .slice none 0 0, .string goal] 34 (0, 0))
  o6 : L.getD 6 false = true → L.getD 1 false = true
theorem PutD.start (hL : ∀ i, L.getD i false = false) : PutD w nm goal x incs W (fun _ => undef) L W.drew :=
  ⟨(Kept.refl _ W).below ((Below.refl _ _).drew), fun h => (by rw [hL] at h; cases h), fun _ => rfl, fun h => (by rw [hL] at h; cases h), fun h => (by rw [hL] at h; cases h), fun h => (by rw [hL] at h; cases h)⟩
theorem PutD.other (h : PutD w nm goal x incs W u L w2) (k : Nat) (hk : k ∉ [6, 8]) : PutD w nm goal x incs W u (L.setIfInBounds k true) w2 := by
  simp only [List.mem_cons, List.not_mem_nil, or_false, not_or] at hk
  obtain ⟨k6, k8⟩ := hk
  obtain ⟨h1, h2, h3, h4, h5, h6⟩ := h
  refine ⟨h1, ?_, ?_, ?_, ?_, ?_⟩ <;> simp only [getD_set_ne false k6, getD_set_ne false k8] <;> first | assumption | exact fun h => getD_set_mono (h6 h)
theorem PutD.c6 (h : PutD w nm goal x incs W u L w2) (hun : L.getD 6 true = false) (k1' : L.getD 1 false = true) {incs' : List ByteArray} (hz : w.heap.size + 1 < w2.heap.size) (hb : Below w2.heap.size w2 w3) (hr : w3.ownsRow (w.heap.size + 3) 9 1 v' incs'.length (strW incs')) (h1 : incs'.length ≤ incs.length + 1) (h2 : wtS incs' ≤ wtS incs + x.size) : PutD w nm goal x incs W (upd u 6 v') (L.setIfInBounds 6 true) w3 := by
  have hn := getD_tf hun
  obtain ⟨k1, k2, k3, k4, k5, k9⟩ := h
  have n8 : L.getD 8 false = false := by
    cases h' : L.getD 8 false with
    | false => rfl
    | true => have := k2 h'; rw [hn] at this; cases this
  refine ⟨k1.below hb, ?_, ?_, ?_, ?_, ?_⟩ <;> simp only [getD_set_ne false (show (6 : Nat) ≠ 8 by decide), getD_set_ne false (show (6 : Nat) ≠ 1 by decide), getD_now hun, n8, upd_same]
  · intro h; cases h
  · intro _; exact (hb.block _ hz).trans (k3 n8)
  · intro _; exact ⟨incs', hr, h1, h2⟩
  · intro h; cases h
  · intro _; exact k1'
theorem PutD.s8 (h : PutD w nm goal x incs W u L w2) (hun : L.getD 8 true = false) (k6 : L.getD 6 false = true) {v4 : Value} (hbx : W.heap[w.heap.size + 1]? = some (.cells #[.string nm, v4, .slice none 0 0, .string goal] 34 (0, 0))) : PutD w nm goal x incs W (upd u 8 v') (L.setIfInBounds 8 true) (w2.setCell ⟨w.heap.size + 1, 1, none⟩ (u 6)) := by
  have hn := getD_tf hun
  obtain ⟨k1, k2, k3, k4, k5, k9⟩ := h
  refine ⟨k1.set rfl _ _, ?_, ?_, ?_, ?_, ?_⟩ <;> simp only [getD_set_ne false (show (8 : Nat) ≠ 6 by decide), getD_set_ne false (show (8 : Nat) ≠ 1 by decide), getD_now hun, k6, upd_other u _ (show (6 : Nat) ≠ 8 by decide)]
  · intro _; trivial
  · intro h; cases h
  · intro _
    obtain ⟨i', e1, e2, e3⟩ := k4 k6
    exact ⟨i', own_same e1 fun b hb _ => heap_setCell_other w2 ⟨w.heap.size + 1, 1, none⟩ b _ (fun e => by have := own_base e1 b hb; have e' : b = w.heap.size + 1 := e; omega), e2, e3⟩
  · intro _
    have := heap_setCell_same w2 (w.heap.size + 1) 1 _ _ (u 6) ((k3 hn).trans hbx)
    simpa using this
  · intro _; exact k9 k6
structure AxD (w : World) (g m : Nat) (nm goal : ByteArray) (axs : List ByteArray) (v4 v7 : Value) (W : World) (u : Nat → Value) (L : Array Bool) (w2 : World) : Prop where
  kept : Kept (fun b => b = g ∨ b = w.heap.size + 1 ∨ v7.ownBlock = some b) W w2
  o5 : L.getD 5 false = true → L.getD 4 false = true
  o6 : L.getD 6 false = true → L.getD 5 false = true
  o8 : L.getD 8 false = true → L.getD 6 false = true
  c0 : L.getD 4 false = false → Cur w2 g m
  c4 : L.getD 4 false = true → Cur w2 g (m + 2)
  s4 : L.getD 4 false = true → IsStr 30 (u 4)
  r5 : L.getD 5 false = true → L.getD 6 false = false → ∃ q, u 5 = .slice (some ⟨q, 0, none⟩) 1 1 ∧ w2.heap[q]? = some (.cells #[u 4] 9 (0, 0)) ∧ W.heap.size ≤ q
  r7 : L.getD 6 false = false → w2.ownsRow (w.heap.size + 3) 9 1 v7 axs.length (strW axs)
  r6 : L.getD 6 false = true → w2.ownsRow (w.heap.size + 3) 9 1 (u 6) (axs.length + 1) (strW axs ++ [u 4]) ∧ ∀ b, (u 6).ownBlock = some b → v7.ownBlock = some b ∨ W.heap.size ≤ b
  b0 : L.getD 8 false = false → w2.heap[w.heap.size + 1]? = W.heap[w.heap.size + 1]?
  b8 : L.getD 8 false = true → w2.heap[w.heap.size + 1]? = some (.cells #[.string nm, v4, u 6, .string goal] 34 (0, 0))
  o1 : L.getD 6 false = true → L.getD 1 false = true
variable {v4 v7 : Value}
theorem AxD.start (hL : ∀ i, L.getD i false = false) (hc : Cur W g m) (hr : W.ownsRow (w.heap.size + 3) 9 1 v7 axs.length (strW axs)) : AxD w g m nm goal axs v4 v7 W (fun _ => undef) L W.drew := by
  have hb := (Below.refl W.heap.size W).drew
  refine ⟨(Kept.refl _ W).below hb, ?_, ?_, ?_, fun _ => hc.below hb, ?_, ?_, ?_, fun _ => own_below hr hb, ?_, fun _ => rfl, ?_, ?_⟩ <;> (intro h; exact absurd h (by rw [hL]; decide))
theorem AxD.other (h : AxD w g m nm goal axs v4 v7 W u L w2) (k : Nat) (hk : k ∉ [4, 5, 6, 8]) : AxD w g m nm goal axs v4 v7 W u (L.setIfInBounds k true) w2 := by
  simp only [List.mem_cons, List.not_mem_nil, or_false, not_or] at hk
  obtain ⟨k4, k5, k6, k8⟩ := hk
  obtain ⟨h1, h2, h3, h4, h5, h6, h7, h8, h9, h10, h11, h12, h13⟩ := h
  refine ⟨h1, ?_, ?_, ?_, ?_, ?_, ?_, ?_, ?_, ?_, ?_, ?_, ?_⟩ <;> simp only [getD_set_ne false k4, getD_set_ne false k5, getD_set_ne false k6, getD_set_ne false k8] <;> first | assumption | exact fun h => getD_set_mono (h13 h)
theorem AxD.call (h : AxD w g m nm goal axs v4 v7 W u L w2) (hun : L.getD 4 true = false) (hg : w2.grownBy w3 (some g)) (hc : Cur w3 g (m + 2)) (hs : IsStr 30 v') (hgl : g < w.heap.size) (hz : w.heap.size + 1 < W.heap.size) : AxD w g m nm goal axs v4 v7 W (upd u 4 v') (L.setIfInBounds 4 true) w3 := by
  have hn := getD_tf hun
  obtain ⟨h1, h2, h3, h4, h5, h6, h7, h8, h9, h10, h11, h12, h13⟩ := h
  have n5 : L.getD 5 false = false := by
    cases h' : L.getD 5 false with
    | false => rfl
    | true => have := h2 h'; rw [hn] at this; cases this
  have n6 : L.getD 6 false = false := by
    cases h' : L.getD 6 false with
    | false => rfl
    | true => have := h3 h'; rw [n5] at this; cases this
  have n8 : L.getD 8 false = false := by
    cases h' : L.getD 8 false with
    | false => rfl
    | true => have := h4 h'; rw [n6] at this; cases this
  have blk : ∀ b, b < w2.heap.size → g < b → w3.heap[b]? = w2.heap[b]? := fun b hb hgb => hg.block b hb (fun e => by injection e with e; omega)
  refine ⟨h1.trans (kept_grown hg (.inl rfl)), ?_, ?_, ?_, ?_, ?_, ?_, ?_, ?_, ?_, ?_, ?_, ?_⟩ <;> simp only [getD_set_ne false (show (4 : Nat) ≠ 1 by decide), getD_set_ne false (show (4 : Nat) ≠ 5 by decide), getD_set_ne false (show (4 : Nat) ≠ 6 by decide), getD_set_ne false (show (4 : Nat) ≠ 8 by decide), getD_now hun, n5, n6, n8, upd_same]
  · intro h; cases h
  · intro h; cases h
  · intro h; cases h
  · intro h; cases h
  · intro _; exact hc
  · intro _; exact hs
  · intro h; cases h
  · intro _; exact own_same (h9 n6) fun b hb hlt => blk b hlt (by have := own_base (h9 n6) b hb; omega)
  · intro h; cases h
  · intro _; exact (blk _ (by have := h1.size; omega) (by omega)).trans (h11 n8)
  · intro h; cases h
  · intro h; cases h
theorem AxD.bld (h : AxD w g m nm goal axs v4 v7 W u L w2) (hun : L.getD 5 true = false) (k4 : L.getD 4 false = true) (hz : w.heap.size + 1 < W.heap.size) : AxD w g m nm goal axs v4 v7 W (upd u 5 (.slice (some ⟨w2.heap.size, 0, none⟩) 1 1)) (L.setIfInBounds 5 true) (w2.alloc (.cells #[u 4] 9)) := by
  have hn := getD_tf hun
  have hb := (Below.refl w2.heap.size w2).alloc (Nat.le_refl _) (.cells #[u 4] 9)
  obtain ⟨h1, h2, h3, h4, h5, h6, h7, h8, h9, h10, h11, h12, h13⟩ := h
  have hsz := h1.size
  have n6 : L.getD 6 false = false := by
    cases h' : L.getD 6 false with
    | false => rfl
    | true => have := h3 h'; rw [hn] at this; cases this
  have n8 : L.getD 8 false = false := by
    cases h' : L.getD 8 false with
    | false => rfl
    | true => have := h4 h'; rw [n6] at this; cases this
  refine ⟨h1.below hb, ?_, ?_, ?_, ?_, ?_, ?_, ?_, ?_, ?_, ?_, ?_, ?_⟩ <;> simp only [getD_set_ne false (show (5 : Nat) ≠ 1 by decide), getD_set_ne false (show (5 : Nat) ≠ 4 by decide), getD_set_ne false (show (5 : Nat) ≠ 6 by decide), getD_set_ne false (show (5 : Nat) ≠ 8 by decide), getD_now hun, k4, n6, n8, upd_same, upd_other u _ (show (4 : Nat) ≠ 5 by decide), upd_other u _ (show (6 : Nat) ≠ 5 by decide)]
  · intro _; trivial
  · intro h; cases h
  · intro h; cases h
  · intro h; cases h
  · intro _; exact (h6 k4).below hb
  · intro _; exact h7 k4
  · intro _ _; exact ⟨_, rfl, heap_alloc_new w2 _, hsz⟩
  · intro _; exact own_below (h9 n6) hb
  · intro h; cases h
  · intro _; exact (hb.block _ (by omega)).trans (h11 n8)
  · intro h; cases h
  · intro h; cases h
theorem AxD.app (h : AxD w g m nm goal axs v4 v7 W u L w2) (hun : L.getD 6 true = false) (k1' : L.getD 1 false = true) (k5 : L.getD 5 false = true) (hgl : g < w.heap.size) (hz : w.heap.size + 1 < W.heap.size) (hr : w3.ownsRow (w.heap.size + 3) 9 1 v' (axs.length + 1) (strW axs ++ [u 4])) (hg : w2.grownBy w3 v7.ownBlock) (hnr : NewRow v7 v' w2.heap.size) : AxD w g m nm goal axs v4 v7 W (upd u 6 v') (L.setIfInBounds 6 true) w3 := by
  have hn := getD_tf hun
  obtain ⟨h1, h2, h3, h4, h5, h6, h7, h8, h9, h10, h11, h12, h13⟩ := h
  have hsz := h1.size
  have ho := h9 hn
  have k4 := h2 k5
  have n8 : L.getD 8 false = false := by
    cases h' : L.getD 8 false with
    | false => rfl
    | true => have := h4 h'; rw [hn] at this; cases this
  have hv : ∀ b, v7.ownBlock = some b → w.heap.size + 3 ≤ b := fun b hb => own_base ho b hb
  refine ⟨h1.grownB hg (fun b hb => .inr (.inr hb)), ?_, ?_, ?_, ?_, ?_, ?_, ?_, ?_, ?_, ?_, ?_, ?_⟩ <;> simp only [getD_set_ne false (show (6 : Nat) ≠ 1 by decide), getD_set_ne false (show (6 : Nat) ≠ 4 by decide), getD_set_ne false (show (6 : Nat) ≠ 5 by decide), getD_set_ne false (show (6 : Nat) ≠ 8 by decide), getD_now hun, k4, k5, n8, upd_same, upd_other u _ (show (4 : Nat) ≠ 6 by decide), upd_other u _ (show (5 : Nat) ≠ 6 by decide)]
  · intro _; trivial
  · intro _; trivial
  · intro h; cases h
  · intro h; cases h
  · intro _; exact (h6 k4).own hg (fun b hb => by have := hv b hb; omega)
  · intro _; exact h7 k4
  · intro _ h; cases h
  · intro h; cases h
  · intro _
    refine ⟨hr, fun b hb => ?_⟩
    rcases hnr with e | ⟨b', e, hge⟩
    · exact .inl (e ▸ hb)
    · rw [e] at hb; injection hb with hb; exact .inr (by omega)
  · intro _; exact (hg.block _ (by omega) (fun e => by have := hv _ e.symm; omega)).trans (h11 n8)
  · intro h; cases h
  · intro _; exact k1'
theorem AxD.s8 (h : AxD w g m nm goal axs v4 v7 W u L w2) (hun : L.getD 8 true = false) (k6 : L.getD 6 false = true) (hgl : g < w.heap.size) (hbx : W.heap[w.heap.size + 1]? = some (.cells #[.string nm, v4, v7, .string goal] 34 (0, 0))) : AxD w g m nm goal axs v4 v7 W (upd u 8 v') (L.setIfInBounds 8 true) (w2.setCell ⟨w.heap.size + 1, 2, none⟩ (u 6)) := by
  have hn := getD_tf hun
  obtain ⟨h1, h2, h3, h4, h5, h6, h7, h8, h9, h10, h11, h12, h13⟩ := h
  have k5 := h3 k6
  have k4 := h2 k5
  refine ⟨h1.set (.inr (.inl rfl)) _ _, ?_, ?_, ?_, ?_, ?_, ?_, ?_, ?_, ?_, ?_, ?_, ?_⟩ <;> simp only [getD_set_ne false (show (8 : Nat) ≠ 1 by decide), getD_set_ne false (show (8 : Nat) ≠ 4 by decide), getD_set_ne false (show (8 : Nat) ≠ 5 by decide), getD_set_ne false (show (8 : Nat) ≠ 6 by decide), getD_now hun, k4, k5, k6, upd_other u _ (show (4 : Nat) ≠ 8 by decide), upd_other u _ (show (5 : Nat) ≠ 8 by decide), upd_other u _ (show (6 : Nat) ≠ 8 by decide)]
  · intro _; trivial
  · intro _; trivial
  · intro _; trivial
  · intro h; cases h
  · intro _; exact (h6 k4).sc (by show g < w.heap.size + 1; omega) _
  · intro _; exact h7 k4
  · intro _ h; cases h
  · intro h; cases h
  · intro _
    obtain ⟨e1, e2⟩ := h10 k6
    exact ⟨own_same e1 fun b hb _ => heap_setCell_other w2 ⟨w.heap.size + 1, 2, none⟩ b _ (fun e => by have := own_base e1 b hb; have e' : b = w.heap.size + 1 := e; omega), e2⟩
  · intro h; cases h
  · intro _
    have := heap_setCell_same w2 (w.heap.size + 1) 2 _ _ (u 6) ((h11 hn).trans hbx)
    simpa using this
  · intro _; exact h13 k6
theorem UGs.put {incs' : List ByteArray} {v5 : Value} (h : UGs w g m nm goal tc incs [] p4 c4 none 0 W) (hk : Kept (fun b => b = w.heap.size + 1) W w2) (hb : w2.heap[w.heap.size + 1]? = some (.cells #[.string nm, v5, .slice none 0 0, .string goal] 34 (0, 0))) (hr : w2.ownsRow (w.heap.size + 3) 9 1 v5 incs'.length (strW incs')) : ∃ p5 c5, v5 = .slice p5 incs'.length c5 ∧ UGs w g m nm goal tc incs' [] p5 c5 none 0 w2 := by
  obtain ⟨p5, c5, rfl⟩ := own_slice hr
  have hl := h.lt
  refine ⟨p5, c5, rfl, h.cur.kept hk (fun b hb e => by omega), hl, grown_kept h.gr hk (fun b hb => .inr (by omega)), (hk.block _ (blk_lt h.box0) (by omega)).trans h.box0, hb, (hk.block _ (blk_lt h.box2) (by omega)).trans h.box2, hr, ⟨by simp [strW], .inl ⟨rfl, rfl⟩⟩, fun b _ e => by simp [Value.ownBlock] at e⟩
theorem UGs.ax {s : ByteArray} {v5 : Value} (h : UGs w g m nm goal tc incs axs p4 c4 p7 c7 W) (hk : Kept (fun b => b = g ∨ b = w.heap.size + 1 ∨ (Value.slice p7 axs.length c7).ownBlock = some b) W w2) (hc : Cur w2 g m') (hb : w2.heap[w.heap.size + 1]? = some (.cells #[.string nm, .slice p4 incs.length c4, v5, .string goal] 34 (0, 0))) (hr : w2.ownsRow (w.heap.size + 3) 9 1 v5 (axs.length + 1) (strW axs ++ [.string s])) (hn : ∀ b, v5.ownBlock = some b → (Value.slice p7 axs.length c7).ownBlock = some b ∨ W.heap.size ≤ b) : ∃ p5 c5, v5 = .slice p5 (axs ++ [s]).length c5 ∧ UGs w g m' nm goal tc incs (axs ++ [s]) p4 c4 p5 c5 w2 := by
  obtain ⟨p5, c5, rfl⟩ := own_slice hr
  have hl := h.lt
  have hv : ∀ b, (Value.slice p7 axs.length c7).ownBlock = some b → w.heap.size + 3 ≤ b := fun b hb => own_base h.r7 b hb
  have e : (axs ++ [s]).length = axs.length + 1 := by simp
  have e2 : strW (axs ++ [s]) = strW axs ++ [.string s] := by simp [strW]
  have bl : ∀ b, b < W.heap.size → b ≠ g → b ≠ w.heap.size + 1 → (Value.slice p7 axs.length c7).ownBlock ≠ some b → w2.heap[b]? = W.heap[b]? := fun b h1 h2 h3 h4 => hk.block b h1 (fun e => by rcases e with e | e | e <;> contradiction)
  refine ⟨p5, c5, by rw [e], hc, hl, grown_kept h.gr hk (fun b hb => by rcases hb with e | e | e; exact .inl e; exact .inr (by omega); exact .inr (by have := hv b e; omega)), (bl _ (blk_lt h.box0) (by omega) (by omega) (fun e => by have := hv _ e; omega)).trans h.box0, by rw [e]; exact hb, (bl _ (blk_lt h.box2) (by omega) (by omega) (fun e => by have := hv _ e; omega)).trans h.box2, ?_, by rw [e, e2]; exact hr, ?_⟩
  · exact own_same h.r4 fun b hb hlt => bl b hlt (by have := own_base h.r4 b hb; omega) (by have := own_base h.r4 b hb; omega) (h.ap b hb)
  · rw [e]
    intro b hb e'
    rcases hn b e' with h1 | h1
    · exact h.ap b hb h1
    · have := own_lt' h.r4 hb; omega
theorem UGs.setGoal {s : ByteArray} (h : UGs w g m nm goal tc incs axs p4 c4 p7 c7 W) : UGs w g m nm s tc incs axs p4 c4 p7 c7 (W.setCell ⟨w.heap.size + 1, 3, none⟩ (.string s)) := by
  have hl := h.lt
  have bl : ∀ b, b ≠ w.heap.size + 1 → (W.setCell ⟨w.heap.size + 1, 3, none⟩ (.string s)).heap[b]? = W.heap[b]? := fun b hb => heap_setCell_other W ⟨w.heap.size + 1, 3, none⟩ b _ hb
  have hb1 := heap_setCell_same W (w.heap.size + 1) 3 _ _ (.string s) h.box1
  refine ⟨h.cur.sc (by show g < w.heap.size + 1; omega) _, hl, gr_sc h.gr (.inr (by show w.heap.size ≤ w.heap.size + 1; omega)) _, (bl _ (by omega)).trans h.box0, by simpa using hb1, (bl _ (by omega)).trans h.box2, ?_, ?_, h.ap⟩
  · exact own_same h.r4 fun b hb _ => bl b (by have := own_base h.r4 b hb; omega)
  · exact own_same h.r7 fun b hb _ => bl b (by have := own_base h.r7 b hb; omega)
theorem UGs.init (h : Cur w g m) (nm : ByteArray) (tc : Array Value) : UGs w g m nm ⟨#[]⟩ tc [] [] none 0 none 0 (((w.alloc (.cells unitN 34)).alloc (.cells #[.string nm, .slice none 0 0, .slice none 0 0, .string ⟨#[]⟩] 34)).alloc (.cells tc 9)) := by
  have hl := h.lt
  obtain ⟨W1, hW1⟩ : ∃ W1, W1 = w.alloc (.cells unitN 34) := ⟨_, rfl⟩
  have hz1 : W1.heap.size = w.heap.size + 1 := by rw [hW1]; simp
  have b0 : W1.heap[w.heap.size]? = some (.cells unitN 34 (0, 0)) := by rw [hW1]; exact heap_alloc_new w _
  have hc1 : Cur W1 g m := by rw [hW1]; exact h.al _
  have hg1 : w.grownBy W1 (some g) := by rw [hW1]; exact gr_al (gr_refl w g) _
  rw [← hW1]
  clear hW1
  obtain ⟨W2, hW2⟩ : ∃ W2, W2 = W1.alloc (.cells #[.string nm, .slice none 0 0, .slice none 0 0, .string ⟨#[]⟩] 34) := ⟨_, rfl⟩
  have hz2 : W2.heap.size = w.heap.size + 2 := by rw [hW2]; simp [hz1]
  have d0 : W2.heap[w.heap.size]? = some (.cells unitN 34 (0, 0)) := by
    rw [hW2]; exact (((Below.refl _ W1).alloc (Nat.le_refl _) _).block _ (by omega)).trans b0
  have d1 : W2.heap[w.heap.size + 1]? = some (.cells #[.string nm, .slice none 0 0, .slice none 0 0, .string ⟨#[]⟩] 34 (0, 0)) := by
    have := heap_alloc_new W1 (.cells #[.string nm, .slice none 0 0, .slice none 0 0, .string ⟨#[]⟩] 34)
    rw [hz1] at this; rw [hW2]; exact this
  have hc2 : Cur W2 g m := by rw [hW2]; exact hc1.al _
  have hg2 : w.grownBy W2 (some g) := by rw [hW2]; exact gr_al hg1 _
  rw [← hW2]
  clear hW2
  have hb := (Below.refl W2.heap.size W2).alloc (Nat.le_refl _) (.cells tc 9)
  refine ⟨hc2.al _, hl, gr_al hg2 _, (hb.block _ (by omega)).trans d0, (hb.block _ (by omega)).trans d1, ?_, ⟨by simp [strW], .inl ⟨rfl, rfl⟩⟩, ⟨by simp [strW], .inl ⟨rfl, rfl⟩⟩, fun b e => by simp [Value.ownBlock] at e⟩
  have := heap_alloc_new W2 (.cells tc 9)
  rw [hz2] at this; exact this
theorem UGs.done (h : UGs w g m nm goal tc incs axs p4 c4 p7 c7 W) {a b c d : Value} : Cur (set4W W w.heap.size 0 a b c d) g m ∧ w.grownBy (set4W W w.heap.size 0 a b c d) (some g) ∧ UC.Own 9 w.heap.size (set4W W w.heap.size 0 a b c d) ⟨⟨nm, incs, axs, goal⟩, p4, c4, p7, c7⟩ := by
  have hl := h.lt
  have hwb : w.heap.size ≤ w.heap.size := Nat.le_refl _
  refine ⟨(((h.cur.sc (p := ⟨_, _, none⟩) hl _).sc (p := ⟨_, _, none⟩) hl _).sc (p := ⟨_, _, none⟩) hl _).sc (p := ⟨_, _, none⟩) hl _, gr_sc (gr_sc (gr_sc (gr_sc h.gr (p := ⟨_, _, none⟩) (.inr hwb) _) (p := ⟨_, _, none⟩) (.inr hwb) _) (p := ⟨_, _, none⟩) (.inr hwb) _) (p := ⟨_, _, none⟩) (.inr hwb) _, ?_, ?_, h.ap⟩
  · exact own_lower (own_same h.r4 fun b hb _ => set4_other W _ _ _ _ (by have := own_base h.r4 b hb; omega)) (by omega)
  · exact own_lower (own_same h.r7 fun b hb _ => set4_other W _ _ _ _ (by have := own_base h.r7 b hb; omega)) (by omega)
end
end Go.Proofs.YtkgfanajgdelcaaGreatDoor
