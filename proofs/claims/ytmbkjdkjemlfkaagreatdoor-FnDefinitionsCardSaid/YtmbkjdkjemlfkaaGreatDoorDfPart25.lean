import Derived.Test.YtmbkjdkjemlfkaaGreatDoorDfPart24
namespace Go.Proofs.YtmbkjdkjemlfkaaGreatDoor
set_option maxRecDepth 100000
open Go.RowKit
structure AscOf (l' l xs : List ByteArray) : Prop where
  asc : Asc lessB l'
  mem : ∀ z, z ∈ l' ↔ z ∈ l ∨ z ∈ xs
  len : l'.length ≤ l.length + xs.length
theorem AscOf.at_ {l : List ByteArray} {x : ByteArray} {k : Nat} (ha : Asc lessB l) (hlt : ∀ y ∈ l.take k, lessB y x = true) (hs : l.length ≤ k ∨ ∃ h : k < l.length, lessB l[k] x = false ∧ l[k] ≠ x) : AscOf (l.take k ++ x :: l.drop k) l [x] := by
  have e : insG lessB l x = l.take k ++ x :: l.drop k := insG_stop x l k hlt (hs.imp id fun ⟨h, h1, _⟩ => ⟨h, h1⟩)
  rw [← e]
  refine ⟨insG_asc strictS ha fun y hy => ?_, fun z => by rw [mem_insG]; simp [or_comm], by rw [insG_len]; simp⟩
  by_cases hyx : y = x
  · exfalso
    subst hyx
    rw [← List.take_append_drop k l] at hy
    rcases List.mem_append.1 hy with hy | hy
    · have := hlt y hy; rw [strictS.irr] at this; cases this
    · rcases hs with hs | ⟨h, h1, h2⟩
      · rw [List.drop_eq_nil_of_le hs] at hy; cases hy
      · rw [List.drop_eq_getElem_cons h] at hy
        rcases List.mem_cons.1 hy with hy | hy
        · exact h2 hy.symm
        · have hp : Asc lessB (l.drop k) := List.Pairwise.sublist (List.drop_sublist k l) ha
          rw [List.drop_eq_getElem_cons h, Asc, List.pairwise_cons] at hp
          have := hp.1 y hy
          rw [h1] at this; cases this
  · exact triS hyx
theorem AscOf.trans {l1 l2 l3 xs ys zs : List ByteArray} (h : AscOf l2 l1 xs) (h2 : AscOf l3 l2 ys) (hz : zs = xs ++ ys) : AscOf l3 l1 zs := by
  subst hz
  refine ⟨h2.asc, fun z => by rw [h2.mem, h.mem, List.mem_append, or_assoc], by have := h.len; have := h2.len; rw [List.length_append]; omega⟩
theorem AscOf.refl {l : List ByteArray} (h : Asc lessB l) : AscOf l l [] := ⟨h, by simp, by simp⟩
theorem AscOf.same {l' l xs ys : List ByteArray} (h : AscOf l' l xs) (hm : ∀ z, z ∈ xs ↔ z ∈ ys) (hl : xs.length ≤ ys.length) : AscOf l' l ys := ⟨h.asc, fun z => by rw [h.mem, hm], by have := h.len; omega⟩
theorem AscOf.eq {a b l xs ys : List ByteArray} (h : AscOf a l xs) (h2 : AscOf b l ys) (hm : ∀ z, z ∈ xs ↔ z ∈ ys) : a = b := asc_eq strictS a b h.asc h2.asc fun z => by rw [h.mem, h2.mem, hm]
mutual
def Tm.vs : Tm → List ByteArray | .mk n us => if varB n.data.toList then [n] else Tm.vss us
def Tm.vss : List Tm → List ByteArray | [] => [] | a :: us => a.vs ++ Tm.vss us
end
mutual
theorem Tm.vs_len : ∀ t : Tm, t.vs.length ≤ t.sz
  | .mk n us => by
    have := Tm.vss_len us
    rw [Tm.vs, Tm.sz]
    split
    · simp
    · omega
theorem Tm.vss_len : ∀ us : List Tm, (Tm.vss us).length ≤ Tm.szs us
  | [] => by simp [Tm.vss, Tm.szs]
  | a :: us => by have := Tm.vs_len a; have := Tm.vss_len us; rw [Tm.vss, Tm.szs, List.length_append]; omega
end
mutual
def Fm.vs : Fm → List ByteArray | .mk op a _ ps => (if op = 3 then a.vs else []) ++ Fm.vss ps
def Fm.vss : List Fm → List ByteArray | [] => [] | f :: fs => f.vs ++ Fm.vss fs
end
mutual
theorem Fm.vs_len : ∀ f : Fm, f.vs.length ≤ f.nn
  | .mk op a _ ps => by
    have := Fm.vss_len ps
    have := a.vs_len
    rw [Fm.vs, Fm.nn, List.length_append]
    split
    · omega
    · simp only [List.length_nil]; omega
theorem Fm.vss_len : ∀ fs : List Fm, (Fm.vss fs).length ≤ Fm.nns fs
  | [] => by simp [Fm.vss, Fm.nns]
  | f :: fs => by have := Fm.vs_len f; have := Fm.vss_len fs; rw [Fm.vss, Fm.nns, List.length_append]; omega
end
theorem Tm.vss_snoc (us : List Tm) (a : Tm) : Tm.vss (us ++ [a]) = Tm.vss us ++ a.vs := by
  induction us with
  | nil => rw [List.nil_append, Tm.vss, Tm.vss, Tm.vss, List.append_nil]; rfl
  | cons b us ih => rw [List.cons_append, Tm.vss, Tm.vss, ih, List.append_assoc]
theorem Fm.vss_snoc (us : List Fm) (a : Fm) : Fm.vss (us ++ [a]) = Fm.vss us ++ a.vs := by
  induction us with
  | nil => rw [List.nil_append, Fm.vss, Fm.vss, Fm.vss, List.append_nil]; rfl
  | cons b us ih => rw [List.cons_append, Fm.vss, Fm.vss, ih, List.append_assoc]
set_option maxHeartbeats 6400000 in
theorem l2Put_asc (base : Nat) (l : List ByteArray) (v : Value) (x : ByteArray) (w : World) (h : w.ownsRow base 9 1 v l.length (strW l)) (hbs : base ≤ w.heap.size) (hl : l.length ≤ 1000000) (hasc : Asc lessB l) :
    Calls Tryz.prog 105 #[v, .string x] w fun e w' => ∃ (l' : List ByteArray) (v' : Value), e = .returned v' ∧ w'.ownsRow base 9 1 v' l'.length (strW l') ∧ AscOf l' l [x] ∧ Below w.heap.size w w' := by
  have H := Lib.hid h
  have HBS := Lib.hid hbs
  have HAS := Lib.hid hasc
  clear hasc
  rcases h.2 with ⟨rfl, h0⟩ | ⟨g, c, cur, rfl, -, -, hnc, -⟩
  · obtain rfl : l = [] := List.eq_nil_of_length_eq_zero h0
    clear h hbs
    go_enter Tryz.func105, Tryz.ntmps105
    go_wp2
    go_loopw [5] (fun i wr => i = .int .i64 ((0 : Nat) : Int) ∧ wr = w) (fun _ _ => 0)
    case atStart => exact ⟨rfl, rfl⟩
    case round =>
      obtain ⟨rfl, rfl⟩ := hrel
      go_wp2
      refine wp_region_any3 [none, some (.slice none 0 0), some (.int .i64 (0 : Nat)), some (.slice none 0 0), none, some (.string x), none, none, some (.slice none 0 0), some (.int .i64 (0 : Nat)), some (.slice none 0 0), none, none] (InsD 9 1 wr 0 (0 + 1) ([]) ([]) (#[.string x])) (by kernel_rfl) (by kernel_rfl) (fun L hL => InsD.start hL) ?_
      refine flowV_ch rfl rfl (by intro u' hu' L w' hun hbe hD; go_simp; exact hD.b0 hun) ?_
      intro x0
      go_simp
      refine flowV_st rfl rfl (by intro u' L w' hun hbe hD; go_simp; first | exact ⟨hD.other 1 (by decide), rfl⟩ | exact hD.other 1 (by decide)) ?_
      go_simp
      refine flowV_st rfl rfl (by intro u' L w' hun hbe hD; go_simp; first | exact ⟨hD.other 2 (by decide), rfl⟩ | exact hD.other 2 (by decide)) ?_
      go_simp
      refine flowV_st rfl rfl (by intro u' L w' hun hbe hD; go_simp; first | exact ⟨hD.other 3 (by decide), rfl⟩ | exact hD.other 3 (by decide)) ?_
      go_simp
      refine flowV_ch rfl rfl ?_ ?_
      · intro u' hu' L w' hun hbe hD
        have hu0 : u' 0 = x0 := (after_eq hu' (by kernel_rfl)).trans (by simp [upd])
        have h0 := after_behind hbe (p := 0) (by kernel_rfl)
        have hw := hD.bel
        refine each_app (.tmp 33) (.tmp 36) 46 rfl wr.heap.size 9 1 16 elemStr (u' 0) 0 [] (by rw [hu0]; rfl) _ 0 ([]) rfl ((.inl ⟨rfl, rfl, rfl⟩)) (hD.r0 h0 (getD_tf hun)) (by simp) (by omega) (by unfold maxLen; omega) hw.size ?_
        intro v' w2 hr hg hn
        exact hD.a4 hun h0 hr hg hn
      intro x4
      go_simp
      refine flowV_st rfl rfl (by intro u' L w' hun hbe hD; have hw := hD.bel; go_simp; first | exact ⟨hD.other 5 (by decide), rfl⟩ | exact hD.other 5 (by decide)) ?_
      go_simp
      refine flowV_ch rfl rfl (by intro u' hu' L w' hun hbe hD; go_simp; exact hD.b6 hun) ?_
      intro x6
      go_simp
      refine flowV_ch rfl rfl ?_ ?_
      · intro u' hu' L w' hun hbe hD
        have hu4 : u' 4 = x4 := (after_eq hu' (by kernel_rfl)).trans (by simp [upd])
        have hu6 : u' 6 = x6 := (after_eq hu' (by kernel_rfl)).trans (by simp [upd])
        have h4 := after_behind hbe (p := 4) (by kernel_rfl)
        have h6 := after_behind hbe (p := 6) (by kernel_rfl)
        have hw := hD.bel
        obtain ⟨q, hq, hqc, -, -⟩ := hD.r6 h6 (getD_tf hun)
        refine each_app (.tmp 37) (.tmp 39) 46 rfl wr.heap.size 9 1 16 elemStr (u' 4) 0 ([]) (by rw [hu4]; rfl) (.slice (some ⟨q, 0, none⟩) 1 1) 1 (#[.string x]).toList (by rw [← hq, hu6]; rfl) (src_block hqc (by simp)) (hD.r4 h4 (getD_tf hun)) (by simp [Value.oneCell']) (by omega) (by unfold maxLen; omega) hw.size ?_
        intro v' w2 hr hg hn
        exact hD.a7 hun h4 h6 hr hg
      intro x7
      go_simp
      refine flowV_st rfl rfl (by intro u' L w' hun hbe hD; go_simp; first | exact ⟨hD.other 8 (by decide), rfl⟩ | exact hD.other 8 (by decide)) ?_
      go_simp
      refine flowV_st rfl rfl (by intro u' L w' hun hbe hD; go_simp; first | exact ⟨hD.other 9 (by decide), rfl⟩ | exact hD.other 9 (by decide)) ?_
      go_simp
      refine flowV_st rfl rfl (by intro u' L w' hun hbe hD; go_simp; first | exact ⟨hD.other 10 (by decide), rfl⟩ | exact hD.other 10 (by decide)) ?_
      go_simp
      refine flowV_ch rfl rfl ?_ ?_
      · intro u' hu' L w' hun hbe hD
        have hu7 : u' 7 = x7 := (after_eq hu' (by kernel_rfl)).trans (by simp [upd])
        have h7 := after_behind hbe (p := 7) (by kernel_rfl)
        have hw := hD.bel
        refine each_app (.tmp 40) (.tmp 43) 46 rfl wr.heap.size 9 1 16 elemStr (u' 7) (0 + 1) (([]) ++ (#[.string x]).toList) (by rw [hu7]; rfl) _ ((0 + 1) - (0 + 1)) ([]) rfl ((.inl ⟨rfl, by simp, rfl⟩)) (hD.r7 h7 (getD_tf hun)) (by simp) (by omega) (by unfold maxLen; omega) hw.size ?_
        intro v' w2 hr hg hn
        rw [show 0 + 1 + ((0 + 1) - (0 + 1)) = (0 + 1) by omega] at hr
        exact hD.a11 hun h7 hr hg
      intro x11
      go_simp
      refine flowV_ch rfl rfl ?_ ?_
      · intro u' hu' L w' hun hbe hD
        have hu11 : u' 11 = x11 := (after_eq hu' (by kernel_rfl)).trans (by simp [upd])
        have h11 := after_behind hbe (p := 11) (by kernel_rfl)
        go_simp
        rw [← hu11]
        exact hD.m12 hun h11
      intro x12
      go_simp
      refine flowV_nil ?_
      intro L w3 hL hD
      have hx12 : x12 = x11 := by have := hD.r12 (by simpa using hL 12 (by simp)); simpa [upd] using this
      have hrow : w3.ownsRow wr.heap.size 9 1 x11 (0 + 1) (([]) ++ (#[.string x]).toList ++ ([])) := by have := hD.r11 (by simpa using hL 11 (by simp)); simpa [upd] using this
      have hbel3 := hD.bel
      subst hx12
      go_wp2
      refine bodyPost_ret (v := x12) (by simp only [results, Tryz.results105]; go_simp) rfl ⟨[x], _, rfl, ?_, ⟨List.pairwise_singleton _ _, by simp, by simp⟩, hbel3⟩
      have := own_lower hrow HBS.out
      simpa [strW] using this
  · have hg := bsz (own_lt h)
    have hci : l.length ≤ c := hnc
    clear h hbs
    go_enter Tryz.func105, Tryz.ntmps105
    go_wp2
    go_loopw [5] (PutRel l x w) (fun i _ => l.length - (intOf i).toNat)
    case atStart => exact ⟨0, Nat.zero_le _, rfl, by simp, rfl⟩
    case round =>
      obtain ⟨k, hk, rfl, hle, rfl⟩ := hrel
      have HLE := Lib.hid hle
      clear hle
      by_cases hlt : k < l.length
      · have c0 : wr.cell? ⟨g, k, none⟩ = some (.string l[k]) := by rw [H.out.cellAt k (by omega), strW, List.getElem?_map, List.getElem?_eq_getElem hlt]; rfl
        have HK := Lib.hid (List.take_succ_eq_append_getElem hlt)
        obtain ⟨y, hy⟩ : ∃ y, l[k] = y := ⟨_, rfl⟩
        rw [hy] at c0 HK
        have HY := Lib.hid hy
        have hki : (k : Int) < l.length := by omega
        have hkc : (k : Int) ≤ c := by omega
        have hkc2 : k ≤ c := by omega
        have hlc : (l.length : Int) ≤ c := by omega
        have hkl : (k : Int) ≤ l.length := by omega
        have hck : c ≠ k := by omega
        clear hy
        have hll : Op.bytesLess y.toList x.toList = lessB y x := by rw [lessB, ByteArray.toList_eq, ByteArray.toList_eq]
        cases hL : lessB y x
        · rw [hL] at hll
          have HL := Lib.hid hL
          clear hL
          cases hE : (y.toList == x.toList)
          case true =>
            have HEQ := Lib.hid (show ∀ z, z ∈ [x] → z ∈ l from fun z hz => by
              obtain rfl : z = x := by simpa using hz
              have : y = z := by
                apply ByteArray.ext; apply Array.ext'
                rw [ByteArray.toList_eq, ByteArray.toList_eq] at hE
                exact beq_iff_eq.1 hE
              rw [← this, ← HY.out]; exact List.getElem_mem hlt)
            go_wp2
            refine bodyPost_ret (v := .slice (some ⟨g, 0, none⟩) l.length c) (by simp only [results, Tryz.results105]; go_simp) rfl ⟨l, _, rfl, ?_, ⟨HAS.out, fun z => ⟨fun hz => .inl hz, fun hz => hz.elim id (fun hz => HEQ.out z hz)⟩, by simp⟩, by exact bel⟩
            exact own_below H.out (by exact bel)
          have HNE := Lib.hid (show y ≠ x from fun e => by rw [e] at hE; simp at hE)
          go_wp2
          refine wp_region_any3 [none, some (.slice (some ⟨g, 0, none⟩) l.length c), some (.int .i64 (k : Nat)), some (.slice (some ⟨g, 0, none⟩) k c), none, some (.string x), none, none, some (.slice (some ⟨g, 0, none⟩) l.length c), some (.int .i64 (k : Nat)), some (.slice (some ⟨g, k, none⟩) (l.length - k) (c - k)), none, none] (InsD 9 1 wr k (l.length + 1) (strW (l.take k)) (strW (l.drop k)) (#[.string x])) (by kernel_rfl) (by kernel_rfl) (fun L hL => InsD.start hL) ?_
          refine flowV_ch rfl rfl (by intro u' hu' L w' hun hbe hD; go_simp; exact hD.b0 hun) ?_
          intro x0
          go_simp
          refine flowV_st rfl rfl (by intro u' L w' hun hbe hD; go_simp; first | exact ⟨hD.other 1 (by decide), rfl⟩ | exact hD.other 1 (by decide)) ?_
          go_simp
          refine flowV_st rfl rfl (by intro u' L w' hun hbe hD; go_simp; first | exact ⟨hD.other 2 (by decide), rfl⟩ | exact hD.other 2 (by decide)) ?_
          go_simp
          refine flowV_st rfl rfl (by intro u' L w' hun hbe hD; go_simp; first | exact ⟨hD.other 3 (by decide), rfl⟩ | exact hD.other 3 (by decide)) ?_
          go_simp
          refine flowV_ch rfl rfl ?_ ?_
          · intro u' hu' L w' hun hbe hD
            have hu0 : u' 0 = x0 := (after_eq hu' (by kernel_rfl)).trans (by simp [upd])
            have h0 := after_behind hbe (p := 0) (by kernel_rfl)
            have hw := hD.bel
            refine each_app (.tmp 33) (.tmp 36) 46 rfl wr.heap.size 9 1 16 elemStr (u' 0) 0 [] (by rw [hu0]; rfl) _ k (strW (l.take k)) rfl ((srcS_head H.out (Nat.le_of_lt hlt) c).below hw) (hD.r0 h0 (getD_tf hun)) (by first | exact strW_cell _ | simp) (by omega) (by unfold maxLen; omega) hw.size ?_
            intro v' w2 hr hg hn
            exact hD.a4 hun h0 hr hg hn
          intro x4
          go_simp
          refine flowV_st rfl rfl (by intro u' L w' hun hbe hD; have hw := hD.bel; go_simp; first | exact ⟨hD.other 5 (by decide), rfl⟩ | exact hD.other 5 (by decide)) ?_
          go_simp
          refine flowV_ch rfl rfl (by intro u' hu' L w' hun hbe hD; go_simp; exact hD.b6 hun) ?_
          intro x6
          go_simp
          refine flowV_ch rfl rfl ?_ ?_
          · intro u' hu' L w' hun hbe hD
            have hu4 : u' 4 = x4 := (after_eq hu' (by kernel_rfl)).trans (by simp [upd])
            have hu6 : u' 6 = x6 := (after_eq hu' (by kernel_rfl)).trans (by simp [upd])
            have h4 := after_behind hbe (p := 4) (by kernel_rfl)
            have h6 := after_behind hbe (p := 6) (by kernel_rfl)
            have hw := hD.bel
            obtain ⟨q, hq, hqc, -, -⟩ := hD.r6 h6 (getD_tf hun)
            refine each_app (.tmp 37) (.tmp 39) 46 rfl wr.heap.size 9 1 16 elemStr (u' 4) k (strW (l.take k)) (by rw [hu4]; rfl) (.slice (some ⟨q, 0, none⟩) 1 1) 1 (#[.string x]).toList (by rw [← hq, hu6]; rfl) (src_block hqc (by simp)) (hD.r4 h4 (getD_tf hun)) (by simp [Value.oneCell']) (by omega) (by unfold maxLen; omega) hw.size ?_
            intro v' w2 hr hg hn
            exact hD.a7 hun h4 h6 hr hg
          intro x7
          go_simp
          refine flowV_st rfl rfl (by intro u' L w' hun hbe hD; go_simp; first | exact ⟨hD.other 8 (by decide), rfl⟩ | exact hD.other 8 (by decide)) ?_
          go_simp
          refine flowV_st rfl rfl (by intro u' L w' hun hbe hD; go_simp; first | exact ⟨hD.other 9 (by decide), rfl⟩ | exact hD.other 9 (by decide)) ?_
          go_simp
          refine flowV_st rfl rfl (by intro u' L w' hun hbe hD; go_simp; first | exact ⟨hD.other 10 (by decide), rfl⟩ | exact hD.other 10 (by decide)) ?_
          go_simp
          refine flowV_ch rfl rfl ?_ ?_
          · intro u' hu' L w' hun hbe hD
            have hu7 : u' 7 = x7 := (after_eq hu' (by kernel_rfl)).trans (by simp [upd])
            have h7 := after_behind hbe (p := 7) (by kernel_rfl)
            have hw := hD.bel
            refine each_app (.tmp 40) (.tmp 43) 46 rfl wr.heap.size 9 1 16 elemStr (u' 7) (k + 1) ((strW (l.take k)) ++ (#[.string x]).toList) (by rw [hu7]; rfl) _ ((l.length + 1) - (k + 1)) (strW (l.drop k)) rfl (srcS_tail' H.out (Nat.le_of_lt hlt) (c - k) (by omega) hw) (hD.r7 h7 (getD_tf hun)) (by first | exact strW_cell _ | simp) (by omega) (by unfold maxLen; omega) hw.size ?_
            intro v' w2 hr hg hn
            rw [show k + 1 + ((l.length + 1) - (k + 1)) = (l.length + 1) by omega] at hr
            exact hD.a11 hun h7 hr hg
          intro x11
          go_simp
          refine flowV_ch rfl rfl ?_ ?_
          · intro u' hu' L w' hun hbe hD
            have hu11 : u' 11 = x11 := (after_eq hu' (by kernel_rfl)).trans (by simp [upd])
            have h11 := after_behind hbe (p := 11) (by kernel_rfl)
            go_simp
            rw [← hu11]
            exact hD.m12 hun h11
          intro x12
          go_simp
          refine flowV_nil ?_
          intro L w3 hL hD
          have hx12 : x12 = x11 := by have := hD.r12 (by simpa using hL 12 (by simp)); simpa [upd] using this
          have hrow : w3.ownsRow wr.heap.size 9 1 x11 (l.length + 1) ((strW (l.take k)) ++ (#[.string x]).toList ++ (strW (l.drop k))) := by have := hD.r11 (by simpa using hL 11 (by simp)); simpa [upd] using this
          have hbel3 := hD.bel
          subst hx12
          go_wp2
          refine bodyPost_ret (v := x12) (by simp only [results, Tryz.results105]; go_simp) rfl ⟨l.take k ++ x :: l.drop k, _, rfl, ?_, AscOf.at_ HAS.out HLE.out (.inr ⟨hlt, by rw [HY.out]; exact HL.out, fun e => HNE.out (HY.out.symm.trans e)⟩), hbel3⟩
          have e : (l.take k ++ x :: l.drop k).length = l.length + 1 := by simp; omega
          have := own_lower hrow HBS.out
          rw [e, strW_app, strW_cons]
          simpa using this
        · rw [hL] at hll
          have HL := Lib.hid hL
          clear hL
          go_wp2
          refine ⟨⟨k + 1, by omega, by go_num, fun z hz => ?_, rfl⟩, by simp [intOf]; omega⟩
          rw [HK.out] at hz
          rcases List.mem_append.1 hz with hz | hz
          · exact HLE.out z hz
          · obtain rfl : z = y := by simpa using hz
            exact HL.out
      · obtain rfl : k = l.length := by omega
        have hkl : (l.length : Int) ≤ c := by omega
        have hkn : ¬ (l.length : Int) < l.length := by omega
        by_cases hcl : c = l.length
        · subst hcl
          go_wp2
          refine wp_region_any3 [none, some (.slice (some ⟨g, 0, none⟩) l.length l.length), some (.int .i64 (l.length : Nat)), some (.slice (some ⟨g, 0, none⟩) l.length l.length), none, some (.string x), none, none, some (.slice (some ⟨g, 0, none⟩) l.length l.length), some (.int .i64 (l.length : Nat)), some (.slice (some ⟨g, 0, none⟩) 0 0), none, none] (InsD 9 1 wr l.length (l.length + 1) (strW l) ([]) (#[.string x])) (by kernel_rfl) (by kernel_rfl) (fun L hL => InsD.start hL) ?_
          refine flowV_ch rfl rfl (by intro u' hu' L w' hun hbe hD; go_simp; exact hD.b0 hun) ?_
          intro x0
          go_simp
          refine flowV_st rfl rfl (by intro u' L w' hun hbe hD; go_simp; first | exact ⟨hD.other 1 (by decide), rfl⟩ | exact hD.other 1 (by decide)) ?_
          go_simp
          refine flowV_st rfl rfl (by intro u' L w' hun hbe hD; go_simp; first | exact ⟨hD.other 2 (by decide), rfl⟩ | exact hD.other 2 (by decide)) ?_
          go_simp
          refine flowV_st rfl rfl (by intro u' L w' hun hbe hD; go_simp; first | exact ⟨hD.other 3 (by decide), rfl⟩ | exact hD.other 3 (by decide)) ?_
          go_simp
          refine flowV_ch rfl rfl ?_ ?_
          · intro u' hu' L w' hun hbe hD
            have hu0 : u' 0 = x0 := (after_eq hu' (by kernel_rfl)).trans (by simp [upd])
            have h0 := after_behind hbe (p := 0) (by kernel_rfl)
            have hw := hD.bel
            refine each_app (.tmp 33) (.tmp 36) 46 rfl wr.heap.size 9 1 16 elemStr (u' 0) 0 [] (by rw [hu0]; rfl) _ l.length (strW l) rfl ((src_all H.out).below hw) (hD.r0 h0 (getD_tf hun)) (by first | exact strW_cell _ | simp) (by omega) (by unfold maxLen; omega) hw.size ?_
            intro v' w2 hr hg hn
            exact hD.a4 hun h0 hr hg hn
          intro x4
          go_simp
          refine flowV_st rfl rfl (by intro u' L w' hun hbe hD; have hw := hD.bel; go_simp; first | exact ⟨hD.other 5 (by decide), rfl⟩ | exact hD.other 5 (by decide)) ?_
          go_simp
          refine flowV_ch rfl rfl (by intro u' hu' L w' hun hbe hD; go_simp; exact hD.b6 hun) ?_
          intro x6
          go_simp
          refine flowV_ch rfl rfl ?_ ?_
          · intro u' hu' L w' hun hbe hD
            have hu4 : u' 4 = x4 := (after_eq hu' (by kernel_rfl)).trans (by simp [upd])
            have hu6 : u' 6 = x6 := (after_eq hu' (by kernel_rfl)).trans (by simp [upd])
            have h4 := after_behind hbe (p := 4) (by kernel_rfl)
            have h6 := after_behind hbe (p := 6) (by kernel_rfl)
            have hw := hD.bel
            obtain ⟨q, hq, hqc, -, -⟩ := hD.r6 h6 (getD_tf hun)
            refine each_app (.tmp 37) (.tmp 39) 46 rfl wr.heap.size 9 1 16 elemStr (u' 4) l.length (strW l) (by rw [hu4]; rfl) (.slice (some ⟨q, 0, none⟩) 1 1) 1 (#[.string x]).toList (by rw [← hq, hu6]; rfl) (src_block hqc (by simp)) (hD.r4 h4 (getD_tf hun)) (by simp [Value.oneCell']) (by omega) (by unfold maxLen; omega) hw.size ?_
            intro v' w2 hr hg hn
            exact hD.a7 hun h4 h6 hr hg
          intro x7
          go_simp
          refine flowV_st rfl rfl (by intro u' L w' hun hbe hD; go_simp; first | exact ⟨hD.other 8 (by decide), rfl⟩ | exact hD.other 8 (by decide)) ?_
          go_simp
          refine flowV_st rfl rfl (by intro u' L w' hun hbe hD; go_simp; first | exact ⟨hD.other 9 (by decide), rfl⟩ | exact hD.other 9 (by decide)) ?_
          go_simp
          refine flowV_st rfl rfl (by intro u' L w' hun hbe hD; go_simp; first | exact ⟨hD.other 10 (by decide), rfl⟩ | exact hD.other 10 (by decide)) ?_
          go_simp
          refine flowV_ch rfl rfl ?_ ?_
          · intro u' hu' L w' hun hbe hD
            have hu7 : u' 7 = x7 := (after_eq hu' (by kernel_rfl)).trans (by simp [upd])
            have h7 := after_behind hbe (p := 7) (by kernel_rfl)
            have hw := hD.bel
            refine each_app (.tmp 40) (.tmp 43) 46 rfl wr.heap.size 9 1 16 elemStr (u' 7) (l.length + 1) ((strW l) ++ (#[.string x]).toList) (by rw [hu7]; rfl) _ ((l.length + 1) - (l.length + 1)) ([]) rfl (srcNil (by omega)) (hD.r7 h7 (getD_tf hun)) (by first | exact strW_cell _ | simp) (by omega) (by unfold maxLen; omega) hw.size ?_
            intro v' w2 hr hg hn
            rw [show l.length + 1 + ((l.length + 1) - (l.length + 1)) = (l.length + 1) by omega] at hr
            exact hD.a11 hun h7 hr hg
          intro x11
          go_simp
          refine flowV_ch rfl rfl ?_ ?_
          · intro u' hu' L w' hun hbe hD
            have hu11 : u' 11 = x11 := (after_eq hu' (by kernel_rfl)).trans (by simp [upd])
            have h11 := after_behind hbe (p := 11) (by kernel_rfl)
            go_simp
            rw [← hu11]
            exact hD.m12 hun h11
          intro x12
          go_simp
          refine flowV_nil ?_
          intro L w3 hL hD
          have hx12 : x12 = x11 := by have := hD.r12 (by simpa using hL 12 (by simp)); simpa [upd] using this
          have hrow : w3.ownsRow wr.heap.size 9 1 x11 (l.length + 1) ((strW l) ++ (#[.string x]).toList ++ ([])) := by have := hD.r11 (by simpa using hL 11 (by simp)); simpa [upd] using this
          have hbel3 := hD.bel
          subst hx12
          go_wp2
          refine bodyPost_ret (v := x12) (by simp only [results, Tryz.results105]; go_simp) rfl ⟨l ++ [x], _, rfl, ?_, by have := AscOf.at_ (x := x) HAS.out HLE.out (.inl (Nat.le_refl _)); rwa [List.take_length, List.drop_length] at this, hbel3⟩
          have := own_lower hrow HBS.out
          simpa [strW] using this
        · have hcl2 : ¬ l.length = c := fun e => hcl e.symm
          go_wp2
          refine wp_region_any3 [none, some (.slice (some ⟨g, 0, none⟩) l.length c), some (.int .i64 (l.length : Nat)), some (.slice (some ⟨g, 0, none⟩) l.length c), none, some (.string x), none, none, some (.slice (some ⟨g, 0, none⟩) l.length c), some (.int .i64 (l.length : Nat)), some (.slice (some ⟨g, l.length, none⟩) 0 (c - l.length)), none, none] (InsD 9 1 wr l.length (l.length + 1) (strW l) ([]) (#[.string x])) (by kernel_rfl) (by kernel_rfl) (fun L hL => InsD.start hL) ?_
          refine flowV_ch rfl rfl (by intro u' hu' L w' hun hbe hD; go_simp; exact hD.b0 hun) ?_
          intro x0
          go_simp
          refine flowV_st rfl rfl (by intro u' L w' hun hbe hD; go_simp; first | exact ⟨hD.other 1 (by decide), rfl⟩ | exact hD.other 1 (by decide)) ?_
          go_simp
          refine flowV_st rfl rfl (by intro u' L w' hun hbe hD; go_simp; first | exact ⟨hD.other 2 (by decide), rfl⟩ | exact hD.other 2 (by decide)) ?_
          go_simp
          refine flowV_st rfl rfl (by intro u' L w' hun hbe hD; go_simp; first | exact ⟨hD.other 3 (by decide), rfl⟩ | exact hD.other 3 (by decide)) ?_
          go_simp
          refine flowV_ch rfl rfl ?_ ?_
          · intro u' hu' L w' hun hbe hD
            have hu0 : u' 0 = x0 := (after_eq hu' (by kernel_rfl)).trans (by simp [upd])
            have h0 := after_behind hbe (p := 0) (by kernel_rfl)
            have hw := hD.bel
            refine each_app (.tmp 33) (.tmp 36) 46 rfl wr.heap.size 9 1 16 elemStr (u' 0) 0 [] (by rw [hu0]; rfl) _ l.length (strW l) rfl ((src_all H.out).below hw) (hD.r0 h0 (getD_tf hun)) (by first | exact strW_cell _ | simp) (by omega) (by unfold maxLen; omega) hw.size ?_
            intro v' w2 hr hg hn
            exact hD.a4 hun h0 hr hg hn
          intro x4
          go_simp
          refine flowV_st rfl rfl (by intro u' L w' hun hbe hD; have hw := hD.bel; go_simp; first | exact ⟨hD.other 5 (by decide), rfl⟩ | exact hD.other 5 (by decide)) ?_
          go_simp
          refine flowV_ch rfl rfl (by intro u' hu' L w' hun hbe hD; go_simp; exact hD.b6 hun) ?_
          intro x6
          go_simp
          refine flowV_ch rfl rfl ?_ ?_
          · intro u' hu' L w' hun hbe hD
            have hu4 : u' 4 = x4 := (after_eq hu' (by kernel_rfl)).trans (by simp [upd])
            have hu6 : u' 6 = x6 := (after_eq hu' (by kernel_rfl)).trans (by simp [upd])
            have h4 := after_behind hbe (p := 4) (by kernel_rfl)
            have h6 := after_behind hbe (p := 6) (by kernel_rfl)
            have hw := hD.bel
            obtain ⟨q, hq, hqc, -, -⟩ := hD.r6 h6 (getD_tf hun)
            refine each_app (.tmp 37) (.tmp 39) 46 rfl wr.heap.size 9 1 16 elemStr (u' 4) l.length (strW l) (by rw [hu4]; rfl) (.slice (some ⟨q, 0, none⟩) 1 1) 1 (#[.string x]).toList (by rw [← hq, hu6]; rfl) (src_block hqc (by simp)) (hD.r4 h4 (getD_tf hun)) (by simp [Value.oneCell']) (by omega) (by unfold maxLen; omega) hw.size ?_
            intro v' w2 hr hg hn
            exact hD.a7 hun h4 h6 hr hg
          intro x7
          go_simp
          refine flowV_st rfl rfl (by intro u' L w' hun hbe hD; go_simp; first | exact ⟨hD.other 8 (by decide), rfl⟩ | exact hD.other 8 (by decide)) ?_
          go_simp
          refine flowV_st rfl rfl (by intro u' L w' hun hbe hD; go_simp; first | exact ⟨hD.other 9 (by decide), rfl⟩ | exact hD.other 9 (by decide)) ?_
          go_simp
          refine flowV_st rfl rfl (by intro u' L w' hun hbe hD; go_simp; first | exact ⟨hD.other 10 (by decide), rfl⟩ | exact hD.other 10 (by decide)) ?_
          go_simp
          refine flowV_ch rfl rfl ?_ ?_
          · intro u' hu' L w' hun hbe hD
            have hu7 : u' 7 = x7 := (after_eq hu' (by kernel_rfl)).trans (by simp [upd])
            have h7 := after_behind hbe (p := 7) (by kernel_rfl)
            have hw := hD.bel
            refine each_app (.tmp 40) (.tmp 43) 46 rfl wr.heap.size 9 1 16 elemStr (u' 7) (l.length + 1) ((strW l) ++ (#[.string x]).toList) (by rw [hu7]; rfl) _ ((l.length + 1) - (l.length + 1)) ([]) rfl (srcNil (by omega)) (hD.r7 h7 (getD_tf hun)) (by first | exact strW_cell _ | simp) (by omega) (by unfold maxLen; omega) hw.size ?_
            intro v' w2 hr hg hn
            rw [show l.length + 1 + ((l.length + 1) - (l.length + 1)) = (l.length + 1) by omega] at hr
            exact hD.a11 hun h7 hr hg
          intro x11
          go_simp
          refine flowV_ch rfl rfl ?_ ?_
          · intro u' hu' L w' hun hbe hD
            have hu11 : u' 11 = x11 := (after_eq hu' (by kernel_rfl)).trans (by simp [upd])
            have h11 := after_behind hbe (p := 11) (by kernel_rfl)
            go_simp
            rw [← hu11]
            exact hD.m12 hun h11
          intro x12
          go_simp
          refine flowV_nil ?_
          intro L w3 hL hD
          have hx12 : x12 = x11 := by have := hD.r12 (by simpa using hL 12 (by simp)); simpa [upd] using this
          have hrow : w3.ownsRow wr.heap.size 9 1 x11 (l.length + 1) ((strW l) ++ (#[.string x]).toList ++ ([])) := by have := hD.r11 (by simpa using hL 11 (by simp)); simpa [upd] using this
          have hbel3 := hD.bel
          subst hx12
          go_wp2
          refine bodyPost_ret (v := x12) (by simp only [results, Tryz.results105]; go_simp) rfl ⟨l ++ [x], _, rfl, ?_, by have := AscOf.at_ (x := x) HAS.out HLE.out (.inl (Nat.le_refl _)); rwa [List.take_length, List.drop_length] at this, hbel3⟩
          have := own_lower hrow HBS.out
          simpa [strW] using this
end Go.Proofs.YtmbkjdkjemlfkaaGreatDoor
