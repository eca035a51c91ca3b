import Derived.Test.YtkgfanajgdelcaaGreatDoorUnPart32
namespace Go.Proofs.YtkgfanajgdelcaaGreatDoor
set_option maxRecDepth 100000
open Go.RowKit
def unitTx : Array Value := #[.string ⟨([112, 40, 97, 41]).toArray⟩, .string ⟨([97, 108, 108, 32, 88, 46, 40, 112, 40, 88, 41, 32, 61, 62, 32, 112, 40, 102, 40, 88, 41, 41, 41]).toArray⟩, .string ⟨([114]).toArray⟩, .string ⟨([40, 114, 32, 61, 62, 32, 112, 40, 98, 41, 41]).toArray⟩, .string ⟨([97, 108, 108, 32, 88, 46, 115, 111, 109, 101, 32, 89, 46, 113, 40, 88, 44, 89, 41]).toArray⟩, .string ⟨([126, 112, 40, 102, 40, 97, 41, 41]).toArray⟩, .string ⟨([97, 32, 61, 32, 98]).toArray⟩, .string ⟨([40, 112, 40, 97, 41, 32, 124, 32, 114, 41]).toArray⟩]
theorem Kept.cell {S : Nat → Prop} {w w' : World} (h : Kept S w w') {a : Addr} (hb : a.block < w.heap.size) (hS : ¬ S a.block) : w'.cell? a = w.cell? a := by
  have := h.block a.block hb hS
  unfold World.cell?
  rw [this]
theorem unitTx_str : ∀ v ∈ unitTx, IsStr 30 v := by
  intro v hv
  simp only [unitTx, List.mem_toArray, List.mem_cons, List.not_mem_nil, or_false] at hv
  rcases hv with rfl | rfl | rfl | rfl | rfl | rfl | rfl | rfl <;> exact ⟨_, rfl, by decide⟩
def UnRel1 (w : World) (g m : Nat) (nm : ByteArray) (n : Nat) (i : Value) (wr : World) : Prop :=
  ∃ (k : Nat) (incs : List ByteArray) (p4 : Option Addr) (c4 : Nat), k ≤ n ∧ i = .int .i64 k ∧ incs.length ≤ k ∧ wtS incs ≤ 10 * k ∧ UGs w g (m + k * 2) nm ⟨#[]⟩ unitTx incs [] p4 c4 none 0 wr
def UnRel2 (w : World) (g m : Nat) (nm : ByteArray) (incs : List ByteArray) (p4 : Option Addr) (c4 : Nat) (i : Value) (wr : World) : Prop :=
  ∃ (k : Nat) (axs : List ByteArray) (p7 : Option Addr) (c7 : Nat), k + axs.length ≤ 2 ∧ i = .int .i64 k ∧ wtS axs ≤ 30 * axs.length ∧ UGs w g (m + axs.length * 2) nm ⟨#[]⟩ unitTx incs axs p4 c4 p7 c7 wr
set_option maxHeartbeats 6400000 in
theorem unit_any {B : Nat → Prop} (g m : Nat) (nm : ByteArray) (vn : Value) (names : List ByteArray) (w : World) (h : Cur w g m) (hm : m + 60 ≤ 1000000000) (hn : StrsAt B w vn names) (hB : ∀ b, B b → b ≠ g) (hnm : nm.size ≤ 10) (hl : names.length ≤ 5) (hs : ∀ s ∈ names, s.size ≤ 10) :
    Calls Tryz.prog 123 #[.pointer (some ⟨g, 0, none⟩), .string nm, vn] w (StepO g m 40 (fun w' v => ∃ (u : Un) (p4 : Option Addr) (c4 : Nat) (p7 : Option Addr) (c7 : Nat), v = .agg #[.string nm, .slice p4 u.incs.length c4, .slice p7 u.axs.length c7, .string u.goal] ∧ u.name = nm ∧ UC.Own 9 w.heap.size w' ⟨u, p4, c4, p7, c7⟩ ∧ u.wt ≤ 400) w) := by
  obtain ⟨p, c, rfl, hlen⟩ := hn.form
  have hgl := h.lt
  have H := Lib.hid h
  have HN := Lib.hid hn
  have HS := Lib.hid hs
  clear h hn hs hlen
  go_enter Tryz.func123, Tryz.ntmps123
  go_wp2_with fail
  go_loopw [9] (UnRel1 w g m nm names.length) (fun i _ => names.length - (intOf i).toNat)
  case atStart =>
    refine ⟨0, [], none, 0, Nat.zero_le _, rfl, Nat.le_refl _, by simp [wtS], ?_⟩
    rw [Nat.zero_mul, Nat.add_zero]
    exact UGs.init (m := m) H.out nm unitTx
  case round =>
    obtain ⟨k, incs, p4, c4, hk, rfl, hil, hiw, hu⟩ := hrel
    have HU := Lib.hid hu
    have hq := hu.gr.size
    have hz2 := blk_lt hu.box2
    clear hu
    by_cases hlt : k < names.length
    · have hki : (k : Int) < names.length := by omega
      go_wp2_with fail
      refine (one_any g (m + k * 2) 2 _ HU.out.cur (by omega) (by omega) (by omega)).mono ?_
      rintro e w1 ⟨_, rfl, ⟨y1, rfl⟩, hc1, hg1⟩
      have HC1 := Lib.hid hc1
      clear hc1
      have ⟨c1, f1⟩ := gcell hg1
      have hz1 := hg1.size
      (try simp at hz1)
      have HU1 := Lib.hid (HU.out.later hg1 HC1.out)
      have hgz := hg1.size
      clear hg1 c1 f1
      cases y1
      · go_wp2
        refine ⟨⟨k + 1, incs, p4, c4, by omega, by go_num, by omega, by omega, ?_⟩, by simp [intOf]; omega⟩
        rw [show m + (k + 1) * 2 = m + k * 2 + 2 by omega]; exact HU1.out
      · obtain ⟨nb, no, rfl, hBn, hxw0, -⟩ := HN.out.at_ hlt
        have hnw := World.block_lt_of_cell? _ _ hxw0
        have hxc := ((gcell HU1.out.gr).1 nb (no + k) hnw (hB nb hBn)).trans hxw0
        have hxs := HS.out _ (List.getElem_mem hlt)
        obtain ⟨x, hx⟩ : ∃ x, names[k] = x := ⟨_, rfl⟩
        rw [hx] at hxc hxs
        clear hxw0
        have zx := bsz (World.block_lt_of_cell? _ _ hxc)
        obtain ⟨d0, d1, d2, d3, df⟩ := row4_cells HU1.out.box1
        have zb := bsz (blk_lt HU1.out.box1)
        have hnb : nb ≠ w.heap.size + 1 := fun e => by have h' : nb < w.heap.size := hnw; omega
        clear hx
        go_wp2
        refine wp_region_any3 [some (.pointer (some ⟨w.heap.size + 1, 1, none⟩)), some (.slice p4 incs.length c4), some (.slice (some ⟨nb, no, none⟩) names.length c), some (.int .i64 k), some (.pointer (some ⟨nb, no + k, none⟩)), some (.string x), none, some (.pointer (some ⟨w.heap.size + 1, 1, none⟩)), none] (PutD w nm ⟨#[]⟩ x incs w1) (by kernel_rfl) (by kernel_rfl) (fun L hL => PutD.start hL) ?_
        refine flowV_st rfl rfl (by intro u' L w' hun hbe hD; go_simp; first | exact ⟨hD.other 0 (by decide), rfl⟩ | exact hD.other 0 (by decide)) ?_
        go_simp
        refine flowV_st rfl rfl (by
          intro u' L w' hun hbe hD
          have n6 : L.getD 6 false = false := by
            cases h' : L.getD 6 false with
            | false => rfl
            | true => have := hD.o6 h'; rw [getD_tf hun] at this; cases this
          have n8 : L.getD 8 false = false := by
            cases h' : L.getD 8 false with
            | false => rfl
            | true => have := hD.o8 h'; rw [n6] at this; cases this
          obtain ⟨e0, e1, e2, e3, ef⟩ := row4_cells ((hD.b0 n8).trans HU1.out.box1)
          have hks := hD.kept.size
          have ze := bsz (show w.heap.size + 1 < w'.heap.size by omega)
          clear hbe
          go_simp; first | exact ⟨hD.other 1 (by decide), rfl⟩ | exact hD.other 1 (by decide)) ?_
        go_simp
        refine flowV_st rfl rfl (by intro u' L w' hun hbe hD; go_simp; first | exact ⟨hD.other 2 (by decide), rfl⟩ | exact hD.other 2 (by decide)) ?_
        go_simp
        refine flowV_st rfl rfl (by intro u' L w' hun hbe hD; go_simp; first | exact ⟨hD.other 3 (by decide), rfl⟩ | exact hD.other 3 (by decide)) ?_
        go_simp
        refine flowV_st rfl rfl (by intro u' L w' hun hbe hD; go_simp; first | exact ⟨hD.other 4 (by decide), rfl⟩ | exact hD.other 4 (by decide)) ?_
        go_simp
        refine flowV_st rfl rfl (by
          intro u' L w' hun hbe hD
          have hxw : w'.cell? ⟨nb, no + k, none⟩ = some (.string x) := (hD.kept.cell (by simpa using zx.1) (show ¬ nb = w.heap.size + 1 from hnb)).trans hxc
          have hks := hD.kept.size
          have ze := bsz (show nb < w'.heap.size by omega)
          go_simp; first | exact ⟨hD.other 5 (by decide), rfl⟩ | exact hD.other 5 (by decide)) ?_
        go_simp
        refine flowV_ch rfl rfl (by
          intro u' hu' L w' hun hbe hD
          have h1 := after_behind hbe (p := 1) (by kernel_rfl)
          have hks := hD.kept.size
          go_simp
          refine (l2Put_gen (w.heap.size + 3) incs _ x w' (own_same HU1.out.r4 fun b hb hlt => hD.kept.block b hlt (fun e => by have := own_base HU1.out.r4 b hb; omega)) (by omega) (by omega)).mono fun e w'' ⟨l', v', he, hr, h2, h3, hb'⟩ => ⟨v', he, ?_⟩
          exact hD.c6 hun h1 (by omega) hb' hr h2 h3) ?_
        intro x6
        go_simp
        refine flowV_st rfl rfl (by intro u' L w' hun hbe hD; go_simp; first | exact ⟨hD.other 7 (by decide), rfl⟩ | exact hD.other 7 (by decide)) ?_
        go_simp
        refine flowV_ch rfl rfl (by
          intro u' hu' L w' hun hbe hD
          have h6 := after_behind hbe (p := 6) (by kernel_rfl)
          have hu6 : u' 6 = x6 := (after_eq hu' (by kernel_rfl)).trans (by simp [upd])
          have hs := hD.s8 (v' := undef) hun h6 HU1.out.box1
          obtain ⟨l6, hr6, -, -⟩ := hD.r6 h6
          obtain ⟨p6, c6, e6⟩ := own_slice hr6
          rw [e6] at hs
          obtain rfl : x6 = .slice p6 l6.length c6 := hu6.symm.trans e6
          obtain ⟨e0, e1, e2, e3, ef⟩ := row4_cells ((hD.b0 (getD_tf hun)).trans HU1.out.box1)
          have hks := hD.kept.size
          have ze := bsz (show w.heap.size + 1 < w'.heap.size by omega)
          clear hu6 hu' e6 hr6
          (first | (go_simp; done) | (go_simp; exact hs))) ?_
        intro x8
        refine flowV_nil ?_
        intro L w3 hL hD
        have h6 : L.getD 6 false = true := by simpa using hL 6 (by simp)
        have h8 : L.getD 8 false = true := by simpa using hL 8 (by simp)
        obtain ⟨incs', hr, h2, h3⟩ := hD.r6 h6
        obtain ⟨p5, c5, -, hU3⟩ := HU1.out.put hD.kept (hD.b8 h8) hr
        have HU3 := Lib.hid hU3
        clear hD hL hr hU3
        go_wp2
        refine ⟨⟨k + 1, incs', p5, c5, by omega, by go_num, by omega, by omega, ?_⟩, by simp [intOf]; omega⟩
        rw [show m + (k + 1) * 2 = m + k * 2 + 2 by omega]; exact HU3.out
    · obtain rfl : k = names.length := by omega
      have hki : ¬ (names.length : Int) < names.length := by omega
      go_wp2_with fail
      refine (pick_any g (m + names.length * 2) 3 _ HU.out.cur (by omega) (by omega) (by omega)).mono ?_
      rintro e w1 ⟨_, rfl, ⟨r1, rfl, hr0, hr2⟩, hc1, hg1⟩
      have HC1 := Lib.hid hc1
      clear hc1
      have ⟨c1, f1⟩ := gcell hg1
      have hz1 := hg1.size
      (try simp at hz1)
      have HU1 := Lib.hid (HU.out.later hg1 HC1.out)
      have hgz := hg1.size
      clear hg1 c1 f1
      obtain ⟨n1, rfl⟩ : ∃ n1 : Nat, r1 = (n1 : Int) := ⟨r1.toNat, by omega⟩
      go_wp2
      go_loopw [10] (UnRel2 w g (m + names.length * 2 + 2) nm incs p4 c4) (fun i _ => (intOf i).toNat)
      case atStart => exact ⟨n1, [], none, 0, by simp; omega, rfl, by simp [wtS], HU1.out⟩
      case round =>
        obtain ⟨n, axs, p7, c7, hn, rfl, haw, hu⟩ := hrel
        have HU2 := Lib.hid hu
        have hq2 := hu.gr.size
        have hz3 := blk_lt hu.box2
        clear hu
        by_cases hn0 : 0 < n
        · have hni : (0 : Int) < n := by omega
          obtain ⟨d0, d1, d2, d3, df⟩ := row4_cells HU2.out.box1
          have zb := bsz (blk_lt HU2.out.box1)
          go_wp2
          refine wp_region_any3 [some (.pointer (some ⟨w.heap.size + 1, 2, none⟩)), some (.slice p7 axs.length c7), some (.pointer (some ⟨g, 0, none⟩)), some (.slice (some ⟨w.heap.size + 2, 0, none⟩) 8 8), none, none, none, some (.pointer (some ⟨w.heap.size + 1, 2, none⟩)), none] (AxD w g (m + names.length * 2 + 2 + axs.length * 2) nm ⟨#[]⟩ axs (.slice p4 incs.length c4) (.slice p7 axs.length c7) wr) (by kernel_rfl) (by kernel_rfl) (fun L hL => AxD.start hL HU2.out.cur HU2.out.r7) ?_
          refine flowV_st rfl rfl (by intro u' L w' hun hbe hD; go_simp; first | exact ⟨hD.other 0 (by decide), rfl⟩ | exact hD.other 0 (by decide)) ?_
          go_simp
          refine flowV_st rfl rfl (by
            intro u' L w' hun hbe hD
            have n6 : L.getD 6 false = false := by
              cases h' : L.getD 6 false with
              | false => rfl
              | true => have := hD.o1 h'; rw [getD_tf hun] at this; cases this
            have n8 : L.getD 8 false = false := by
              cases h' : L.getD 8 false with
              | false => rfl
              | true => have := hD.o8 h'; rw [n6] at this; cases this
            obtain ⟨e0, e1, e2, e3, ef⟩ := row4_cells ((hD.b0 n8).trans HU2.out.box1)
            have hks := hD.kept.size
            have ze := bsz (show w.heap.size + 1 < w'.heap.size by omega)
            clear hbe
            go_simp; first | exact ⟨hD.other 1 (by decide), rfl⟩ | exact hD.other 1 (by decide)) ?_
          go_simp
          refine flowV_st rfl rfl (by intro u' L w' hun hbe hD; go_simp; first | exact ⟨hD.other 2 (by decide), rfl⟩ | exact hD.other 2 (by decide)) ?_
          go_simp
          refine flowV_st rfl rfl (by intro u' L w' hun hbe hD; go_simp; first | exact ⟨hD.other 3 (by decide), rfl⟩ | exact hD.other 3 (by decide)) ?_
          go_simp
          refine flowV_ch rfl rfl (by
            intro u' hu' L w' hun hbe hD
            have hks := hD.kept.size
            have hb2 : w'.heap[w.heap.size + 2]? = some (.cells unitTx 9 (0, 0)) := (hD.kept.block _ hz3 (fun e => by
              rcases e with e | e | e
              · omega
              · omega
              · have := own_base HU2.out.r7 _ e; omega)).trans HU2.out.box2
            go_simp
            refine (of_any g (m + names.length * 2 + 2 + axs.length * 2) (w.heap.size + 2) 8 30 unitTx 9 (0, 0) w' (hD.c0 (getD_tf hun)) (by omega) hb2 (by omega) (by decide) (by decide) unitTx_str).mono fun e w'' ⟨v', he, hv, hc, hg⟩ => ⟨v', he, ?_⟩
            exact hD.call hun hg hc hv hgl (by omega)) ?_
          intro x4
          go_simp
          refine flowV_ch rfl rfl (by
            intro u' hu' L w' hun hbe hD
            have h4 := after_behind hbe (p := 4) (by kernel_rfl)
            have hu4 : u' 4 = x4 := (after_eq hu' (by kernel_rfl)).trans (by simp [upd])
            obtain ⟨s, e4, -⟩ := hD.s4 h4
            obtain rfl : x4 = .string s := hu4.symm.trans e4
            have hs := hD.bld hun h4 (by omega)
            rw [e4] at hs
            clear hu4 hu' e4
            (first | (go_simp; done) | (go_simp; exact hs))) ?_
          intro x5
          go_simp
          refine flowV_ch rfl rfl (by
            intro u' hu' L w' hun hbe hD
            have h5 := after_behind hbe (p := 5) (by kernel_rfl)
            have h1 := after_behind hbe (p := 1) (by kernel_rfl)
            have hu5 : u' 5 = x5 := (after_eq hu' (by kernel_rfl)).trans (by simp [upd])
            obtain ⟨q, hq, hqc, -⟩ := hD.r5 h5 (getD_tf hun)
            have hks := hD.kept.size
            refine each_app (.tmp 37) (.tmp 41) 26 rfl (w.heap.size + 3) 9 1 16 elemStr (.slice p7 axs.length c7) axs.length (strW axs) rfl (.slice (some ⟨q, 0, none⟩) 1 1) 1 (#[u' 4] : Array Value).toList (by rw [← hq, hu5]; rfl) (src_block hqc (by simp)) (hD.r7 (getD_tf hun)) (fun v hv => by obtain ⟨s, e4, -⟩ := hD.s4 (hD.o5 h5); rw [e4] at hv; simp at hv; rw [hv]; rfl) (by omega) (by unfold maxLen; omega) (by omega) ?_
            intro v' w2 hr hg hn
            exact hD.app hun h1 h5 hgl (by omega) hr hg hn) ?_
          intro x6
          go_simp
          refine flowV_st rfl rfl (by intro u' L w' hun hbe hD; go_simp; first | exact ⟨hD.other 7 (by decide), rfl⟩ | exact hD.other 7 (by decide)) ?_
          go_simp
          refine flowV_ch rfl rfl (by
            intro u' hu' L w' hun hbe hD
            have h6 := after_behind hbe (p := 6) (by kernel_rfl)
            have hu6 : u' 6 = x6 := (after_eq hu' (by kernel_rfl)).trans (by simp [upd])
            have hs := hD.s8 (v' := undef) hun h6 hgl HU2.out.box1
            obtain ⟨hr6, -⟩ := hD.r6 h6
            obtain ⟨p6, c6, e6⟩ := own_slice hr6
            rw [e6] at hs
            obtain rfl : x6 = .slice p6 (axs.length + 1) c6 := hu6.symm.trans e6
            obtain ⟨e0, e1, e2, e3, ef⟩ := row4_cells ((hD.b0 (getD_tf hun)).trans HU2.out.box1)
            have hks := hD.kept.size
            have ze := bsz (show w.heap.size + 1 < w'.heap.size by omega)
            clear hu6 hu' e6 hr6
            (first | (go_simp; done) | (go_simp; exact hs))) ?_
          intro x8
          refine flowV_nil ?_
          intro L w3 hL hD
          have h4 : L.getD 4 false = true := by simpa using hL 4 (by simp)
          have h6 : L.getD 6 false = true := by simpa using hL 6 (by simp)
          have h8 : L.getD 8 false = true := by simpa using hL 8 (by simp)
          obtain ⟨s, e4, hs30⟩ := hD.s4 h4
          obtain ⟨hr6, hn6⟩ := hD.r6 h6
          rw [e4] at hr6
          obtain ⟨p5, c5, -, hU3⟩ := HU2.out.ax hD.kept (hD.c4 h4) (hD.b8 h8) hr6 hn6
          have HU3 := Lib.hid hU3
          clear hD hL hr6 hn6 hU3 e4
          go_wp2
          refine ⟨⟨n - 1, axs ++ [s], p5, c5, by simp; omega, by go_num, by rw [wtS_snoc, List.length_append]; simp; omega, ?_⟩, by simp [intOf]; omega⟩
          rw [show (axs ++ [s]).length = axs.length + 1 by simp, show m + names.length * 2 + 2 + (axs.length + 1) * 2 = m + names.length * 2 + 2 + axs.length * 2 + 2 by omega]
          exact HU3.out
        · obtain rfl : n = 0 := by omega
          go_wp2_with fail
          refine (one_any g (m + names.length * 2 + 2 + axs.length * 2) 2 _ HU2.out.cur (by omega) (by omega) (by omega)).mono ?_
          rintro e w2 ⟨_, rfl, ⟨y2, rfl⟩, hc2, hg2⟩
          have HC2 := Lib.hid hc2
          clear hc2
          have ⟨c2, f2⟩ := gcell hg2
          have hz2 := hg2.size
          (try simp at hz2)
          have HU3 := Lib.hid (HU2.out.later hg2 HC2.out)
          have hgz2 := hg2.size
          clear hg2 c2 f2
          cases y2
          · obtain ⟨d0, d1, d2, d3, df⟩ := row4_cells HU3.out.box1
            obtain ⟨e0, e1, e2, e3, ef⟩ := row4_cells HU3.out.box0
            have zb := bsz (blk_lt HU3.out.box1)
            have zb0 := bsz (blk_lt HU3.out.box0)
            go_wp2
            obtain ⟨r1, r2, r3⟩ := HU3.out.done (a := .string nm) (b := .slice p4 incs.length c4) (c := .slice p7 axs.length c7) (d := .string ⟨#[]⟩)
            refine bodyPost_ret (v := .agg #[.string nm, .slice p4 incs.length c4, .slice p7 axs.length c7, .string ⟨#[]⟩]) (by simp only [results, Tryz.results123]; go_simp) rfl ⟨_, rfl, ⟨⟨nm, incs, axs, ⟨#[]⟩⟩, p4, c4, p7, c7, rfl, rfl, r3, ?_⟩, r1.more (by omega) (by omega), r2⟩
            · show nm.size + (incs.length + wtS incs) + (axs.length + wtS axs) + ByteArray.size ⟨#[]⟩ ≤ 400
              have : ByteArray.size ⟨#[]⟩ ≤ 30 := by first | exact hs30 | decide
              omega
          · go_wp2_with fail
            refine (of_any g _ (w.heap.size + 2) 8 30 unitTx 9 (0, 0) _ HU3.out.cur (by omega) HU3.out.box2 (by omega) (by decide) (by decide) unitTx_str).mono ?_
            rintro e w3 ⟨_, rfl, ⟨s, rfl, hs30⟩, hc3, hg3⟩
            have HC3 := Lib.hid hc3
            clear hc3
            have ⟨c3, f3⟩ := gcell hg3
            have hz3 := hg3.size
            (try simp at hz3)
            have HU4 := Lib.hid (HU3.out.later hg3 HC3.out)
            have hgz3 := hg3.size
            obtain ⟨d0, d1, d2, d3, df⟩ := row4_cells HU4.out.box1
            have zb := bsz (blk_lt HU4.out.box1)
            clear hg3 c3 f3
            have HU5 := Lib.hid (HU4.out.setGoal (s := s))
            obtain ⟨e0, e1, e2, e3, ef⟩ := row4_cells HU4.out.box0
            have zb0 := bsz (blk_lt HU4.out.box0)
            go_wp2
            obtain ⟨r1, r2, r3⟩ := HU5.out.done (a := .string nm) (b := .slice p4 incs.length c4) (c := .slice p7 axs.length c7) (d := .string s)
            refine bodyPost_ret (v := .agg #[.string nm, .slice p4 incs.length c4, .slice p7 axs.length c7, .string s]) (by simp only [results, Tryz.results123]; go_simp) rfl ⟨_, rfl, ⟨⟨nm, incs, axs, s⟩, p4, c4, p7, c7, rfl, rfl, r3, ?_⟩, r1.more (by omega) (by omega), r2⟩
            · show nm.size + (incs.length + wtS incs) + (axs.length + wtS axs) + ByteArray.size s ≤ 400
              have : ByteArray.size s ≤ 30 := by first | exact hs30 | decide
              omega
theorem flatU_split (D : List UC) (m : Nat) : flatU (D.take m) = (flatU D).take (m * 4) ∧ flatU (D.drop m) = (flatU D).drop (m * 4) := by
  by_cases hm : m ≤ D.length
  · have hl : (flatU (D.take m)).length = m * 4 := by rw [flatU_len, List.length_take, Nat.min_eq_left hm]
    have e : flatU D = flatU (D.take m) ++ flatU (D.drop m) := by rw [← flatU_app, List.take_append_drop]
    rw [e]
    exact ⟨by rw [← hl, List.take_left], by rw [← hl, List.drop_left]⟩
  · rw [List.take_of_length_le (by omega), List.drop_eq_nil_of_le (by omega), List.take_of_length_le (by rw [flatU_len]; omega), List.drop_eq_nil_of_le (by rw [flatU_len]; omega)]
    exact ⟨rfl, rfl⟩
theorem Uns.row {e : TypeId} {base : Nat} {w : World} {ov ov' : Value} {D : List UC} (h : Uns e base w ov D) (hf : ∀ x ∈ D, ∀ b, x.S b → ov'.ownBlock ≠ some b) : Uns e base w ov' D := ⟨h.each, hf, h.pair⟩
theorem flatU_cell (D : List UC) : ∀ u ∈ flatU D, u.oneCell' = true := by
  intro u hu
  rw [flatU, List.mem_flatMap] at hu
  obtain ⟨x, -, hx⟩ := hu
  simp only [UC.cs, List.mem_cons, List.not_mem_nil, or_false] at hx
  rcases hx with rfl | rfl | rfl | rfl <;> rfl
theorem own_some {w : World} {base n size : Nat} {e : TypeId} {v : Value} {xs : List Value} (h : w.ownsRow base e size v n xs) (h0 : 0 < n) : ∃ g c, v = .slice (some ⟨g, 0, none⟩) n c := by
  rcases h.2 with ⟨rfl, h1⟩ | ⟨g, cap, cur, rfl, _⟩
  · omega
  · exact ⟨_, _, rfl⟩
theorem srcU_head {w : World} {base : Nat} {e : TypeId} {g c k m : Nat} {D : List UC} (h : w.ownsRow base e 4 (.slice (some ⟨g, 0, none⟩) k c) k (flatU D)) (hm : m ≤ k) (c' : Nat) : SrcIs w 4 (.slice (some ⟨g, 0, none⟩) m c') m (flatU (D.take m)) := by
  rw [(flatU_split D m).1]; exact src_head h hm c'
theorem srcU_tail {w : World} {base : Nat} {e : TypeId} {g c k m : Nat} {D : List UC} (h : w.ownsRow base e 4 (.slice (some ⟨g, 0, none⟩) k c) k (flatU D)) (hm : m ≤ k) (c' : Nat) : SrcIs w 4 (.slice (some ⟨g, m * 4, none⟩) (k - m) c') (k + 1 - (m + 1)) (flatU (D.drop m)) := by
  rw [(flatU_split D m).2, show k + 1 - (m + 1) = k - m by omega]; exact src_tail h hm c'
theorem srcU_nil {w : World} {g o c k : Nat} {D : List UC} (hk : D.length = k) : SrcIs w 4 (.slice (some ⟨g, o, none⟩) 0 c) (k + 1 - (k + 1)) (flatU (D.drop k)) := by
  rw [List.drop_eq_nil_of_le (by omega)]; exact srcNil (by omega)
def libNm : List ByteArray := [⟨([115, 101, 116, 115]).toArray⟩, ⟨([98, 97, 115, 101]).toArray⟩, ⟨([111, 114, 100, 101, 114]).toArray⟩, ⟨([108, 111, 103, 105, 99]).toArray⟩, ⟨([122, 49]).toArray⟩]
def libTx : Array Value := (strW libNm).toArray
theorem libNm_size : ∀ s ∈ libNm, s.size ≤ 10 := by decide
structure LibS (w : World) (g m : Nat) (nmv : Value) (ns : List ByteArray) (og oc : Nat) (D : List UC) (wr : World) : Prop where
  cur : Cur wr g m
  lt : g < w.heap.size
  gr : w.grownBy wr (some g)
  tx : wr.heap[w.heap.size + 2]? = some (.cells libTx 9 (0, 0))
  nr : wr.ownsRow w.heap.size 9 1 nmv ns.length (strW ns)
  or : wr.ownsRow w.heap.size 34 4 (.slice (some ⟨og, 0, none⟩) D.length oc) D.length (flatU D)
  uns : Uns 9 (w.heap.size + 3) wr (.slice (some ⟨og, 0, none⟩) D.length oc) D
  nd : ∀ b, nmv.ownBlock = some b → b ≠ og ∧ b ≠ w.heap.size + 2 ∧ ∀ x ∈ D, ¬ x.S b
  ot : og ≠ w.heap.size + 2
  wt : ∀ x ∈ D, x.u.wt ≤ 400
section
variable {w W w2 w3 : World} {g m m' og oc : Nat} {nmv v' : Value} {ns : List ByteArray} {D : List UC}
theorem Uns.sameB {e : TypeId} {base : Nat} {w w' : World} {ov : Value} {D : List UC} (h : Uns e base w ov D) (hs : ∀ b, base ≤ b → b < w.heap.size → (∀ x ∈ D, x.S b → w'.heap[b]? = w.heap[b]?)) : Uns e base w' ov D :=
  ⟨fun x hx => (h.each x hx).same fun b hb hl => hs b ((h.each x hx).blk hb).1 hl x hx hb, h.far, h.pair⟩
theorem LibS.later (h : LibS w g m nmv ns og oc D W) (hg : W.grownBy w2 (some g)) (hc : Cur w2 g m') : LibS w g m' nmv ns og oc D w2 := by
  have hl := h.lt
  have blk : ∀ b, b < W.heap.size → g < b → w2.heap[b]? = W.heap[b]? := fun b hb hgb => hg.block b hb (fun e => by injection e with e; omega)
  refine ⟨hc, hl, gr_trans h.gr hg, (blk _ (blk_lt h.tx) (by omega)).trans h.tx, ?_, ?_, ?_, h.nd, h.ot, h.wt⟩
  · exact own_same h.nr fun b hb hlt => blk b hlt (by have := own_base h.nr b hb; omega)
  · exact own_same h.or fun b hb hlt => blk b hlt (by have := own_base h.or b hb; omega)
  · exact h.uns.sameB fun b hb hlt _ _ _ => blk b hlt (by omega)
theorem LibS.below (h : LibS w g m nmv ns og oc D W) (hb : Below W.heap.size W w2) : LibS w g m nmv ns og oc D w2 := h.later (gr_below (gr_refl W g) hb) (h.cur.below hb)
theorem LibS.name {s : ByteArray} (h : LibS w g m nmv ns og oc D W) (hr : w2.ownsRow w.heap.size 9 1 v' (ns.length + 1) (strW ns ++ [.string s])) (hg : W.grownBy w2 nmv.ownBlock) (hn : NewRow nmv v' W.heap.size) : LibS w g m v' (ns ++ [s]) og oc D w2 := by
  have hl := h.lt
  have e : (ns ++ [s]).length = ns.length + 1 := by simp
  have e2 : strW (ns ++ [s]) = strW ns ++ [.string s] := by simp [strW]
  have hv : ∀ b, nmv.ownBlock = some b → w.heap.size ≤ b := fun b hb => own_base h.nr b hb
  have hz := h.gr.size
  refine ⟨h.cur.own hg (fun b hb => by have := hv b hb; omega), hl, ?_, (hg.block _ (blk_lt h.tx) (fun e => (h.nd _ e.symm).2.1 rfl)).trans h.tx, by rw [e, e2]; exact hr, ?_, ?_, ?_, h.ot, h.wt⟩
  · exact ⟨hg.os.trans h.gr.os, hg.tape.trans h.gr.tape, hg.output.trans h.gr.output, Nat.le_trans hz hg.size, fun b hb hne => (hg.block b (by omega) (fun e => by have := hv b e.symm; omega)).trans (h.gr.block b hb hne)⟩
  · exact own_same h.or fun b hb hlt => hg.block b hlt (fun e => (h.nd b e.symm).1 (by simpa [Value.ownBlock] using hb.symm))
  · exact h.uns.sameB fun b _ hlt x hx hb => hg.block b hlt (fun e => (h.nd b e.symm).2.2 x hx hb)
  · intro b hb
    rcases hn with e | ⟨b', e, hge⟩
    · rw [e] at hb; exact h.nd b hb
    · rw [e] at hb
      injection hb with hb
      have h1 := own_lt h.or
      have h2 := blk_lt h.tx
      exact ⟨by omega, by omega, fun x hx hxb => by have := ((h.uns.each x hx).blk hxb).2; omega⟩
theorem LibS.put {x : UC} {k : Nat} {og' oc' : Nat} (h : LibS w g m nmv ns og oc D W) (hb : Below W.heap.size W w2) (hx : x.Own 9 (w.heap.size + 3) W) (hxw : x.u.wt ≤ 400) (hxd : ∀ y ∈ D, ∀ b, y.S b → ¬ x.S b) (hxn : ∀ b, nmv.ownBlock = some b → ¬ x.S b)
    (hr : w2.ownsRow W.heap.size 34 4 (.slice (some ⟨og', 0, none⟩) (D.length + 1) oc') (D.length + 1) (flatU (D.take k ++ x :: D.drop k))) : LibS w g m nmv ns og' oc' (D.take k ++ x :: D.drop k) w2 := by
  have hz := h.gr.size
  have hog : W.heap.size ≤ og' := own_base hr og' rfl
  have hlen : (D.take k ++ x :: D.drop k).length = D.length + 1 := by
    have := congrArg List.length (List.take_append_drop k D)
    rw [List.length_append] at this
    rw [List.length_append, List.length_cons]; omega
  have hp : (D.take k ++ x :: D.drop k).Perm (D ++ [x]) := List.perm_middle.trans (by rw [List.take_append_drop]; exact (List.perm_append_singleton _ D).symm)
  have h1 := own_lt h.or
  have h2 := blk_lt h.tx
  refine ⟨h.cur.below hb, h.lt, gr_below h.gr hb, (hb.block _ h2).trans h.tx, own_below h.nr hb, by rw [hlen]; exact own_lower hr hz, ?_, ?_, by omega, ?_⟩
  · rw [hlen]
    exact (((h.uns.below hb).row (fun y hy b hyb e => by have := ((h.uns.each y hy).blk hyb).2; simp only [Value.ownBlock, Option.some.injEq] at e; omega)).snoc (hx.same (fun b _ hl => hb.block b hl)) (fun b hxb e => by have := (hx.blk hxb).2; simp only [Value.ownBlock, Option.some.injEq] at e; omega) hxd).perm hp
  · intro b hb'
    have hbl := own_lt' h.nr hb'
    exact ⟨by omega, (h.nd b hb').2.1, fun y hy hyb => by
      rcases List.mem_append.1 (hp.mem_iff.1 hy) with hy | hy
      · exact (h.nd b hb').2.2 y hy hyb
      · obtain rfl : y = x := by simpa using hy
        exact hxn b hb' hyb⟩
  · intro y hy
    rcases List.mem_append.1 (hp.mem_iff.1 hy) with hy | hy
    · exact h.wt y hy
    · obtain rfl : y = x := by simpa using hy
      exact hxw
theorem LibS.init (h : Cur w g m) : LibS w g m (.slice (some ⟨w.heap.size + 1, 0, none⟩) 0 0) [] w.heap.size 0 [] (((w.alloc (.cells #[] 34)).alloc (.cells #[] 9)).alloc (.cells libTx 9)) := by
  have hl := h.lt
  obtain ⟨W1, hW1⟩ : ∃ W1, W1 = w.alloc (.cells #[] 34) := ⟨_, rfl⟩
  have hz1 : W1.heap.size = w.heap.size + 1 := by rw [hW1]; simp
  have r0 : W1.ownsRow w.heap.size 34 4 (.slice (some ⟨w.heap.size, 0, none⟩) 0 0) 0 [] := by rw [hW1]; exact row_empty w _ _ _ (Nat.le_refl _)
  have hc1 : Cur W1 g m := by rw [hW1]; exact h.al _
  have hg1 : w.grownBy W1 (some g) := by rw [hW1]; exact gr_al (gr_refl w g) _
  rw [← hW1]
  clear hW1
  obtain ⟨W2, hW2⟩ : ∃ W2, W2 = W1.alloc (.cells #[] 9) := ⟨_, rfl⟩
  have hz2 : W2.heap.size = w.heap.size + 2 := by rw [hW2]; simp [hz1]
  have hb2 : Below W1.heap.size W1 W2 := by rw [hW2]; exact (Below.refl _ _).alloc (Nat.le_refl _) _
  have r1 : W2.ownsRow w.heap.size 9 1 (.slice (some ⟨w.heap.size + 1, 0, none⟩) 0 0) 0 [] := by
    have := row_empty W1 w.heap.size 9 1 (by omega)
    rw [hz1] at this; rw [hW2]; exact this
  have hc2 : Cur W2 g m := hc1.below hb2
  have hg2 : w.grownBy W2 (some g) := gr_below hg1 hb2
  rw [← hW2]
  clear hW2
  have hb := (Below.refl W2.heap.size W2).alloc (Nat.le_refl _) (.cells libTx 9)
  refine ⟨hc2.below hb, hl, gr_below hg2 hb, ?_, own_below r1 hb, own_below (own_below r0 hb2) hb, Uns.nil _ _ _ _, fun b e => ?_, by omega, fun x hx => by cases hx⟩
  · have := heap_alloc_new W2 (.cells libTx 9)
    rw [hz2] at this; exact this
  · simp only [Value.ownBlock, Option.some.injEq] at e
    exact ⟨by omega, by omega, fun x hx => by cases hx⟩
end
theorem own_block {w : World} {k : Nat} {cur : Array Value} {e : TypeId} {base size n c : Nat} (h : w.heap[k]? = some (.cells cur e (0, 0))) (hb : base ≤ k) (hn : n ≤ c) (hc : c ≤ maxLen) (hs : cur.size = c * size) {xs : List Value} (hx : cur.toList.take (n * size) = xs) : w.ownsRow base e size (.slice (some ⟨k, 0, none⟩) n c) n xs := by
  have hle : n * size ≤ c * size := Nat.mul_le_mul_right _ hn
  refine ⟨by rw [← hx, List.length_take, Array.length_toList]; omega, .inr ⟨k, c, cur, rfl, hb, h, hn, hc, hs, hx⟩⟩
theorem Uns.replace {e : TypeId} {base : Nat} {w : World} {ov : Value} {D : List UC} {k n : Nat} {x y : UC} (h : Uns e base w ov D) (hx : D[k]? = some x) (hlt : ∀ z ∈ D, ∀ b, z.S b → b < n) (hov : ∀ b, ov.ownBlock = some b → b < n) (hy : y.Own e base w) (hS : ∀ b, y.S b → x.S b ∨ n ≤ b) : Uns e base w ov (D.set k y) := by
  obtain ⟨hk, rfl⟩ := List.getElem?_eq_some_iff.1 hx
  have hne : ∀ (j : Nat) (hj : j < D.length), j ≠ k → ∀ b, D[j].S b → ¬ y.S b := fun j hj hjk b h1 h2 => by
    rcases hS b h2 with h3 | h3
    · rcases Nat.lt_or_gt_of_ne hjk with hl | hl
      · exact List.pairwise_iff_getElem.1 h.pair j k hj hk hl b h1 h3
      · exact List.pairwise_iff_getElem.1 h.pair k j hk hj hl b h3 h1
    · have := hlt _ (List.getElem_mem hj) b h1; omega
  refine ⟨fun z hz => ?_, fun z hz b hb => ?_, ?_⟩
  · rcases List.mem_or_eq_of_mem_set hz with hz | rfl
    · exact h.each z hz
    · exact hy
  · rcases List.mem_or_eq_of_mem_set hz with hz | rfl
    · exact h.far z hz b hb
    · rcases hS b hb with h1 | h1
      · exact h.far _ (List.getElem_mem hk) b h1
      · intro e; have := hov b e; omega
  · rw [List.pairwise_iff_getElem]
    intro i j hi hj hij b h1 h2
    rw [List.length_set] at hi hj
    rw [List.getElem_set] at h1 h2
    by_cases hik : k = i
    · rw [if_pos hik] at h1
      rw [if_neg (by omega)] at h2
      exact hne j hj (by omega) b h2 h1
    · rw [if_neg hik] at h1
      by_cases hjk : k = j
      · rw [if_pos hjk] at h2
        exact hne i hi (by omega) b h1 h2
      · rw [if_neg hjk] at h2
        exact List.pairwise_iff_getElem.1 h.pair i j hi hj hij b h1 h2
theorem src_own {w : World} {base : Nat} {e : TypeId} {size n : Nat} {v : Value} {xs : List Value} (h : w.ownsRow base e size v n xs) : SrcIs w size v n xs := by
  rcases h.2 with ⟨rfl, rfl⟩ | ⟨g, cap, cur, rfl, -⟩
  · exact .inl ⟨rfl, rfl, List.eq_nil_of_length_eq_zero (by rw [h.1]; omega)⟩
  · have := src_head h (Nat.le_refl _) cap
    rwa [List.take_of_length_le (by rw [h.1]; exact Nat.le_refl _)] at this
theorem gr_own {w W w2 : World} {g : Nat} {v : Value} (h : w.grownBy W (some g)) (hg : W.grownBy w2 v.ownBlock) (hv : ∀ b, v.ownBlock = some b → w.heap.size ≤ b) : w.grownBy w2 (some g) := by
  have hz := h.size
  exact ⟨hg.os.trans h.os, hg.tape.trans h.tape, hg.output.trans h.output, Nat.le_trans hz hg.size, fun b hb hne => (hg.block b (by omega) (fun e => by have := hv b e.symm; omega)).trans (h.block b hb hne)⟩
theorem UC.Own.grownG {e : TypeId} {base g : Nat} {W w3 : World} {x : UC} (h : x.Own e base W) (hg : W.grownBy w3 (some g)) (hgb : g < base) : x.Own e base w3 :=
  h.same fun b hb hl => hg.block b hl (fun e => by injection e with e; have := (h.blk hb).1; omega)
theorem UC.Own.newI {e : TypeId} {base g c : Nat} {W w3 : World} {x : UC} {l : List ByteArray} {p : Option Addr} (h : x.Own e base W) (hg : W.grownBy w3 (some g)) (hgb : g < base) (hz : base ≤ W.heap.size) (hr : w3.ownsRow W.heap.size e 1 (.slice p l.length c) l.length (strW l)) :
    (⟨⟨x.u.name, l, x.u.axs, x.u.goal⟩, p, c, x.q, x.d⟩ : UC).Own e base w3 ∧ ∀ b, (⟨⟨x.u.name, l, x.u.axs, x.u.goal⟩, p, c, x.q, x.d⟩ : UC).S b → x.S b ∨ W.heap.size ≤ b := by
  have h3 := h.grownG hg hgb
  refine ⟨⟨own_lower hr hz, h3.rb, fun b h1 h2 => ?_⟩, fun b hb => ?_⟩
  · have := own_base hr b h1
    have := (h.blk (.inr h2)).2; omega
  · rcases hb with hb | hb
    · exact .inr (own_base hr b hb)
    · exact .inl (.inr hb)
theorem UC.Own.newA {e : TypeId} {base g c : Nat} {W w3 : World} {x : UC} {l : List ByteArray} {p : Option Addr} (h : x.Own e base W) (hg : W.grownBy w3 (some g)) (hgb : g < base) (hz : base ≤ W.heap.size) (hr : w3.ownsRow W.heap.size e 1 (.slice p l.length c) l.length (strW l)) :
    (⟨⟨x.u.name, x.u.incs, l, x.u.goal⟩, x.p, x.c, p, c⟩ : UC).Own e base w3 ∧ ∀ b, (⟨⟨x.u.name, x.u.incs, l, x.u.goal⟩, x.p, x.c, p, c⟩ : UC).S b → x.S b ∨ W.heap.size ≤ b := by
  have h3 := h.grownG hg hgb
  refine ⟨⟨h3.ra, own_lower hr hz, fun b h1 h2 => ?_⟩, fun b hb => ?_⟩
  · have := own_base hr b h2
    have := (h.blk (.inl h1)).2; omega
  · rcases hb with hb | hb
    · exact .inl (.inl hb)
    · exact .inr (own_base hr b hb)
theorem UC.Own.newT {e : TypeId} {base g : Nat} {W w3 : World} {x : UC} (nm gl : ByteArray) (h : x.Own e base W) (hg : W.grownBy w3 (some g)) (hgb : g < base) :
    (⟨⟨nm, x.u.incs, x.u.axs, gl⟩, x.p, x.c, x.q, x.d⟩ : UC).Own e base w3 ∧ ∀ b, (⟨⟨nm, x.u.incs, x.u.axs, gl⟩, x.p, x.c, x.q, x.d⟩ : UC).S b → x.S b ∨ W.heap.size ≤ b :=
  have h3 := h.grownG hg hgb
  ⟨⟨h3.ra, h3.rb, h3.ap⟩, fun _ hb => .inl hb⟩
theorem set4_alloc (w4 : World) (o : Obj) {b1 og k i : Nat} (v u0 u1 u2 u3 : Value) (h1 : b1 < w4.heap.size) (h2 : og < w4.heap.size) : set4W ((w4.alloc o).setCell ⟨b1, i, none⟩ v) og k u0 u1 u2 u3 = (set4W (w4.setCell ⟨b1, i, none⟩ v) og k u0 u1 u2 u3).alloc o := by
  unfold set4W
  rw [World.setCell_alloc_past _ _ _ _ h1, World.setCell_alloc_past _ _ _ _ (by simpa using h2), World.setCell_alloc_past _ _ _ _ (by simpa using h2), World.setCell_alloc_past _ _ _ _ (by simpa using h2), World.setCell_alloc_past _ _ _ _ (by simpa using h2)]
section
variable {w W w3 : World} {g m m' og oc r : Nat} {nmv : Value} {ns : List ByteArray} {D : List UC} {x y : UC}
theorem LibS.fro (h : LibS w g m nmv ns og oc D W) (hx : D[r]? = some x) : W.cell? ⟨og, r * 4, none⟩ = some (.string x.u.name) ∧ W.cell? ⟨og, r * 4 + 1, none⟩ = some (.slice x.p x.u.incs.length x.c) ∧ W.cell? ⟨og, r * 4 + 2, none⟩ = some (.slice x.q x.u.axs.length x.d) ∧ W.cell? ⟨og, r * 4 + 3, none⟩ = some (.string x.u.goal) ∧ (∀ j, W.frozen? ⟨og, j, none⟩ = false) ∧ og < W.heap.size := by
  have h0 := (List.getElem?_eq_some_iff.1 hx).1
  obtain ⟨g', e', -, h2, h3, h4⟩ := rowU_cell h.or (by omega)
  obtain rfl : og = g' := by injection e' with e'; injection e'
  obtain ⟨a, b, c, d⟩ := h4 r x hx
  exact ⟨a, b, c, d, h3, h2⟩
theorem LibS.done (h : LibS w g m nmv ns og oc D W) (hg : W.grownBy w3 (some g)) (hc : Cur w3 g m') (hx : D[r]? = some x) (hy : y.Own 9 (w.heap.size + 3) w3) (hS : ∀ b, y.S b → x.S b ∨ W.heap.size ≤ b) (hwt : y.u.wt ≤ 1000) (hl : D.length ≤ 5) :
    Cur (set4W w3 og (r * 4) (.string y.u.name) (.slice y.p y.u.incs.length y.c) (.slice y.q y.u.axs.length y.d) (.string y.u.goal)) g m' ∧
    w.grownBy (set4W w3 og (r * 4) (.string y.u.name) (.slice y.p y.u.incs.length y.c) (.slice y.q y.u.axs.length y.d) (.string y.u.goal)) (some g) ∧
    ∃ us : List Un, UnsAt (NewB w (set4W w3 og (r * 4) (.string y.u.name) (.slice y.p y.u.incs.length y.c) (.slice y.q y.u.axs.length y.d) (.string y.u.goal))) (set4W w3 og (r * 4) (.string y.u.name) (.slice y.p y.u.incs.length y.c) (.slice y.q y.u.axs.length y.d) (.string y.u.goal)) (.slice (some ⟨og, 0, none⟩) D.length oc) us ∧ us.length ≤ 5 ∧ ∀ u ∈ us, u.wt ≤ 1000 := by
  have h3 := h.later hg hc
  obtain ⟨hr, rfl⟩ := List.getElem?_eq_some_iff.1 hx
  have hU3 := h3.uns.replace hx (fun z hz b hb => ((h.uns.each z hz).blk hb).2) (fun b hb => own_lt' h.or hb) hy hS
  have hrow := rowU_set y hr h3.or
  have hog := own_base h3.or og rfl
  have hlt := h.lt
  have hot : ∀ b, b ≠ og → (set4W w3 og (r * 4) (.string y.u.name) (.slice y.p y.u.incs.length y.c) (.slice y.q y.u.axs.length y.d) (.string y.u.goal)).heap[b]? = w3.heap[b]? := fun b hb => set4_other w3 _ _ _ _ hb
  have hz4 : (set4W w3 og (r * 4) (.string y.u.name) (.slice y.p y.u.incs.length y.c) (.slice y.q y.u.axs.length y.d) (.string y.u.goal)).heap.size = w3.heap.size := by simp [set4W]
  have hcur : Cur (set4W w3 og (r * 4) (.string y.u.name) (.slice y.p y.u.incs.length y.c) (.slice y.q y.u.axs.length y.d) (.string y.u.goal)) g m' := (((h3.cur.sc (p := ⟨_, _, none⟩) (by show g < og; omega) _).sc (p := ⟨_, _, none⟩) (by show g < og; omega) _).sc (p := ⟨_, _, none⟩) (by show g < og; omega) _).sc (p := ⟨_, _, none⟩) (by show g < og; omega) _
  have hgr : w.grownBy (set4W w3 og (r * 4) (.string y.u.name) (.slice y.p y.u.incs.length y.c) (.slice y.q y.u.axs.length y.d) (.string y.u.goal)) (some g) := gr_sc (gr_sc (gr_sc (gr_sc h3.gr (p := ⟨_, _, none⟩) (.inr hog) _) (p := ⟨_, _, none⟩) (.inr hog) _) (p := ⟨_, _, none⟩) (.inr hog) _) (p := ⟨_, _, none⟩) (.inr hog) _
  obtain ⟨w4, hw4⟩ : ∃ w4, w4 = set4W w3 og (r * 4) (.string y.u.name) (.slice y.p y.u.incs.length y.c) (.slice y.q y.u.axs.length y.d) (.string y.u.goal) := ⟨_, rfl⟩
  rw [← hw4] at hrow hot hz4 hcur hgr ⊢
  clear hw4
  have hU4 : Uns 9 (w.heap.size + 3) w4 (.slice (some ⟨og, 0, none⟩) D.length oc) (D.set r y) := hU3.sameB fun b _ _ z hz hzb => hot b (fun e => hU3.far z hz b hzb (by rw [e]; rfl))
  have hlen : (D.set r y).length = ((D.set r y).map UC.u).length := by rw [List.length_map]
  have hln : ((D.set r y).map UC.u).length = D.length := by rw [List.length_map, List.length_set]
  have hwt' : ∀ u ∈ (D.set r y).map UC.u, u.wt ≤ 1000 := by
    intro u hu
    obtain ⟨z, hz, rfl⟩ := List.mem_map.1 hu
    rcases List.mem_or_eq_of_mem_set hz with hz | rfl
    · have := h.wt z hz; omega
    · exact hwt
  refine ⟨hcur, hgr, (D.set r y).map UC.u, ?_, by omega, hwt'⟩
  have hUl : Uns 9 w.heap.size w4 (.slice (some ⟨og, 0, none⟩) D.length oc) (D.set r y) := ⟨fun z hz => ⟨own_lower (hU4.each z hz).ra (by omega), own_lower (hU4.each z hz).rb (by omega), (hU4.each z hz).ap⟩, hU4.far, hU4.pair⟩
  have hown := hUl.own (S := NewB w w4) (us := (D.set r y).map UC.u) (eU := 34) (by rw [hln]; exact hrow) rfl (by rw [hln]; unfold maxLen; omega) (fun u hu => by have := hwt' u hu; unfold maxLen; omega) (fun b h1 h2 => ⟨h1, h2⟩)
  exact hown.at_
end
end Go.Proofs.YtkgfanajgdelcaaGreatDoor
