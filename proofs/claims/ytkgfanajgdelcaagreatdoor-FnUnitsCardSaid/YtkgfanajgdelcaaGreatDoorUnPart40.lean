import Derived.Test.YtkgfanajgdelcaaGreatDoorUnPart39
namespace Go.Proofs.YtkgfanajgdelcaaGreatDoor
set_option maxRecDepth 100000
open Go.RowKit
theorem aft_head {k : UInt8} {ks l : List UInt8} (h : aft (k :: ks) l = true) : l.head? = some k := by
  cases l with
  | nil => simp [aft] at h
  | cons c l => simp [aft, List.isPrefixOf] at h; simp [h.1]
theorem pre_take (K L : List UInt8) : K.isPrefixOf L = (L.take K.length == K) := by
  rw [Bool.eq_iff_iff, List.isPrefixOf_iff_prefix, List.prefix_iff_eq_take, beq_iff_eq]
  exact eq_comm
set_option maxHeartbeats 1600000 in
theorem l27After_any (line word : ByteArray) (w : World) (_hl : line.size ≤ 1000000) (hw : word.size ≤ 100) :
    Calls Tryz.prog 68 #[.string line, .string word] w fun e w' => e = .returned (.tuple #[.string (if aft (word.data.toList ++ [32]) line.data.toList then baL (line.data.toList.drop (word.size + 1)) else ⟨#[]⟩), .bool (aft (word.data.toList ++ [32]) line.data.toList)]) ∧ w = w' := by
  have hlen : (word.data.toList ++ [32]).length = word.size + 1 := by rw [List.length_append, ← size_list]; rfl
  by_cases h1 : line.size < word.size + 1
  · have hp : aft (word.data.toList ++ [32]) line.data.toList = false := by
      cases h : aft (word.data.toList ++ [32]) line.data.toList with
      | false => rfl
      | true =>
        have := (List.isPrefixOf_iff_prefix.1 h).length_le
        rw [hlen, ← size_list] at this; omega
    rw [hp]
    have hi1 : (line.size : Int) < (word.size : Int) + 1 := by omega
    clear hlen hp
    go_enter Tryz.func68, Tryz.ntmps68
    go_wp2
    go_ret2
    exact ⟨rfl, rfl⟩
  · have hp : (List.take (word.size + 1) line.toList == word.toList ++ [32]) = aft (word.data.toList ++ [32]) line.data.toList := by
      rw [aft, pre_take, hlen, ByteArray.toList_eq, ByteArray.toList_eq]
    have hx : line.extract (word.size + 1) line.size = baL (line.data.toList.drop (word.size + 1)) := by
      apply ByteArray.ext
      apply Array.toList_inj.1
      rw [extract_list, take_all _ _ (by omega), baL_list]
    have HX := Lib.hid hx
    have hi1 : ¬ (line.size : Int) < (word.size : Int) + 1 := by omega
    have hi2 : word.size + 1 ≤ line.size := by omega
    cases ha : aft (word.data.toList ++ [32]) line.data.toList
    · rw [ha] at hp
      clear hlen hx
      go_enter Tryz.func68, Tryz.ntmps68
      go_wp2
      go_ret2
      exact ⟨rfl, rfl⟩
    · rw [ha] at hp
      clear hlen hx
      go_enter Tryz.func68, Tryz.ntmps68
      go_wp2
      go_ret2
      exact ⟨congrArg (fun x => Ending.returned (.tuple #[.string x, .bool true])) HX.out, rfl⟩
theorem unit_ne {l : List UInt8} (h : aft kwUnit l = true) : aft kwInc l = false ∧ aft kwAx l = false ∧ aft kwGoal l = false := by
  have h1 := aft_head h
  refine ⟨?_, ?_, ?_⟩ <;> (rw [Bool.eq_false_iff]; intro h2; have h3 := aft_head h2; rw [h1] at h3; exact absurd h3 (by decide))
theorem inc_ne {l : List UInt8} (h : aft kwInc l = true) : aft kwUnit l = false ∧ aft kwAx l = false ∧ aft kwGoal l = false := by
  have h1 := aft_head h
  refine ⟨?_, ?_, ?_⟩ <;> (rw [Bool.eq_false_iff]; intro h2; have h3 := aft_head h2; rw [h1] at h3; exact absurd h3 (by decide))
theorem ax_ne {l : List UInt8} (h : aft kwAx l = true) : aft kwUnit l = false ∧ aft kwInc l = false ∧ aft kwGoal l = false := by
  have h1 := aft_head h
  refine ⟨?_, ?_, ?_⟩ <;> (rw [Bool.eq_false_iff]; intro h2; have h3 := aft_head h2; rw [h1] at h3; exact absurd h3 (by decide))
theorem stS_eq (u : Un) (l : List UInt8) : stS u l = if aft kwUnit l then u.putN (l.drop 5) else if aft kwInc l then u.putI (l.drop 8) else if aft kwAx l then u.putA (l.drop 6) else if aft kwGoal l then u.putG (l.drop 5) else u := by
  rw [stS, onA, onA, onA, onA]
  cases h1 : aft kwUnit l
  · cases h2 : aft kwInc l
    · cases h3 : aft kwAx l
      · cases h4 : aft kwGoal l
        · simp
        · simp [kwGoal]
      · obtain ⟨-, -, h4⟩ := ax_ne h3
        rw [h4]; simp [kwAx]
    · obtain ⟨-, h3, h4⟩ := inc_ne h2
      rw [h3, h4]; simp [kwInc]
  · obtain ⟨h2, h3, h4⟩ := unit_ne h1
    rw [h2, h3, h4]; simp [kwUnit]
set_option maxHeartbeats 6400000 in
theorem specPU_any (s : ByteArray) (w : World) (hs : s.size ≤ 1048576) :
    Calls Tryz.prog 26 #[.string s] w fun e w' => ∃ v0 v1 v2 v3, e = .returned (.tuple #[.agg #[v0, v1, v2, v3], .bool (puOk s.data.toList)]) ∧ UnAt (NewB w w') w' (puV s.data.toList) [v0, v1, v2, v3] ∧ Below w.heap.size w w' := by
  have hsz : s.data.toList.length = s.size := (size_list s).symm
  by_cases h4 : (4000 : Int) < s.size
  · have HO := Lib.hid (pu_long (L := s.data.toList) (by omega))
    go_enter Tryz.func26, Tryz.ntmps26
    go_wp2
    refine bodyPost_ret (v := .tuple #[.agg #[.string ⟨#[]⟩, .slice none 0 0, .slice none 0 0, .string ⟨#[]⟩], .bool false]) (by simp only [results, Tryz.results26]; go_simp) rfl ⟨_, _, _, _, by rw [HO.out], by rw [puV, HO.out, if_neg (by simp)]; exact (UnOwn.zero 9 _ _).at_, by exact bel⟩
  have HWT := Lib.hid (fun n => parS_wt s.data.toList n)
  have HSP := Lib.hid (lsum_split 10 s.data.toList)
  have hll : (splitF s.data.toList 10).length ≤ s.size + 1 := by rw [count_split, Lib.countByte, ← hsz]; have := List.count_le_length (a := (10 : UInt8)) (l := s.data.toList); omega
  go_enter Tryz.func26, Tryz.ntmps26
  go_wp2_with fail
  obtain ⟨W, hW⟩ : ∃ W : World, W = (w.alloc (.cells unitZ 34)).alloc (.cells unitZ 34) := ⟨_, rfl⟩
  have hbW : Below w.heap.size w W := by rw [hW]; exact bel
  have hzW : W.heap.size = w.heap.size + 2 := by rw [hW]; simp
  have hkW : W.heap[w.heap.size + 1]? = some (.cells unitZ 34 (0, 0)) := by rw [hW]; have := heap_alloc_new (w.alloc (.cells unitZ 34)) (.cells unitZ 34); simpa using this
  have hrW : W.heap[w.heap.size]? = some (.cells unitZ 34 (0, 0)) := by rw [hW]; exact (hao _ _ _ (by simp)).trans (heap_alloc_new w _)
  show Calls Tryz.prog _ _ ((w.alloc (.cells unitZ 34)).alloc (.cells unitZ 34)) _
  rw [← hW]
  refine (l1Split_any s 10 W (by omega)).mono ?_
  rintro e w1 ⟨vl, rfl, hl1, hb1⟩
  have hq1 := hb1.size
  have hsv : strV (splitF s.data.toList 10) = strW ((splitF s.data.toList 10).map baL) := by rw [strV, strW, List.map_map]; rfl
  rw [hsv] at hl1
  have HLS := Lib.hid (rowS_own (S := NewB W w1) (us := (splitF s.data.toList 10).map baL) (by rw [List.length_map]; exact hl1) (fun x hx => by
    obtain ⟨y, hy, rfl⟩ := List.mem_map.1 hx
    have := lsum_mem hy
    rw [HSP.out] at this
    rw [baL_size]; unfold maxLen; omega) (by rw [List.length_map]; unfold maxLen; omega) (fun g hg => ⟨own_base hl1 g hg, own_lt' hl1 hg⟩)).at_
  obtain ⟨pl, kl, rfl⟩ : ∃ p c, vl = .slice p (splitF s.data.toList 10).length c := by
    rcases hl1.2 with ⟨rfl, h0⟩ | ⟨g, cap, cur, rfl, _⟩
    · exact ⟨none, 0, by rw [h0]⟩
    · exact ⟨_, _, rfl⟩
  have HU0 := Lib.hid (UnS.start (e := 9) ((hb1.block _ (by omega)).trans hkW))
  have HR0 := Lib.hid ((hb1.block _ (by omega)).trans hrW)
  have hb01 : Below w.heap.size w w1 := Below.step hbW hb1
  have hks : w.heap.size + 1 < w1.heap.size := by omega
  clear hl1 hW hkW hrW hsv
  go_wp2
  go_loopw [6] (PuRel s.data.toList stS w1 (w.heap.size + 1)) (fun i _ => (splitF s.data.toList 10).length - (intOf i).toNat)
  case atStart => exact ⟨0, _, _, Nat.zero_le _, rfl, HU0.out⟩
  case round =>
    obtain ⟨n, va, vb, hn, rfl, hus⟩ := hrel
    have HUS := Lib.hid hus
    have hqr := hus.gr.size
    have hqg := hus.gr
    by_cases hlt : n < (splitF s.data.toList 10).length
    · obtain ⟨g, o, rfl, hB', hy0, hys⟩ := HLS.out.at_ (i := n) (by rw [List.length_map]; exact hlt)
      rw [List.getElem_map] at hy0 hys
      have hgn : g ≠ w.heap.size + 1 := by have := hB'.1; omega
      have y0 := (World.cell?_of_block (a := ⟨g, o + n, none⟩) (hqg.block g hB'.2 (by simpa using hgn))).trans hy0
      have zy := bsz (World.block_lt_of_cell? _ _ y0)
      have HTK := Lib.hid (take_fold stS u0 hlt)
      have hwt := HWT.out n
      have hlz := lsum_mem (List.getElem_mem hlt)
      rw [HSP.out] at hlz
      obtain ⟨ln, hln⟩ : ∃ ln, (splitF s.data.toList 10)[n] = ln := ⟨_, rfl⟩
      rw [hln] at y0 hys HTK hlz
      rw [baL_size] at hys
      generalize ((splitF s.data.toList 10).take n).foldl stS u0 = u at *
      have hni : (n : Int) < (splitF s.data.toList 10).length := by omega
      have HL := Lib.hid (fun (K : ByteArray) (w' : World) (hK : K.size ≤ 100) => l27After_any (baL ln) K w' (by rw [baL_size]; omega) hK)
      obtain ⟨p1, c1, q1, d1, rfl, rfl⟩ := hus.form
      obtain ⟨x0, x1, x2, x3, xf⟩ := hus.cells
      have zk := bsz hus.klt
      have hzs := wt_sizes hwt
      have hni2 : u.incs.length ≤ 1048577 * 4 ∧ u.axs.length ≤ 1048577 * 4 := ⟨by have := hzs.2.2.2.2.1; omega, by have := hzs.2.2.2.2.2; omega⟩
      have HST := Lib.hid (stS_eq u ln)
      have HK1 := Lib.hid (show ∀ w' : World, Calls Tryz.prog 68 #[.string (baL ln), .string ⟨#[117, 110, 105, 116]⟩] w' fun e w'' => e = .returned (.tuple #[.string (if aft kwUnit ln then baL (ln.drop 5) else ⟨#[]⟩), .bool (aft kwUnit ln)]) ∧ w' = w'' from fun w' => HL.out ⟨#[117, 110, 105, 116]⟩ w' (by decide))
      have HK2 := Lib.hid (show ∀ w' : World, Calls Tryz.prog 68 #[.string (baL ln), .string ⟨#[105, 110, 99, 108, 117, 100, 101]⟩] w' fun e w'' => e = .returned (.tuple #[.string (if aft kwInc ln then baL (ln.drop 8) else ⟨#[]⟩), .bool (aft kwInc ln)]) ∧ w' = w'' from fun w' => HL.out ⟨#[105, 110, 99, 108, 117, 100, 101]⟩ w' (by decide))
      have HK3 := Lib.hid (show ∀ w' : World, Calls Tryz.prog 68 #[.string (baL ln), .string ⟨#[97, 120, 105, 111, 109]⟩] w' fun e w'' => e = .returned (.tuple #[.string (if aft kwAx ln then baL (ln.drop 6) else ⟨#[]⟩), .bool (aft kwAx ln)]) ∧ w' = w'' from fun w' => HL.out ⟨#[97, 120, 105, 111, 109]⟩ w' (by decide))
      have HK4 := Lib.hid (show ∀ w' : World, Calls Tryz.prog 68 #[.string (baL ln), .string ⟨#[103, 111, 97, 108]⟩] w' fun e w'' => e = .returned (.tuple #[.string (if aft kwGoal ln then baL (ln.drop 5) else ⟨#[]⟩), .bool (aft kwGoal ln)]) ∧ w' = w'' from fun w' => HL.out ⟨#[103, 111, 97, 108]⟩ w' (by decide))
      clear hus hy0 hln hzs hwt
      by_cases a1 : aft kwUnit ln = true
      · obtain ⟨a2, a3, a4⟩ := unit_ne a1
        rw [a1] at HK1 HST
        rw [a2] at HK2 HST
        rw [a3] at HK3 HST
        rw [a4] at HK4 HST
        clear a1 a2 a3 a4
        go_wp2_with (first | (go_at_call 68; (first | (with_reducible refine (HK1.out _).mono ?_) | (with_reducible refine (HK2.out _).mono ?_) | (with_reducible refine (HK3.out _).mono ?_) | (with_reducible refine (HK4.out _).mono ?_)); rintro e w2 ⟨rfl, rfl⟩))
        refine ⟨⟨n + 1, .slice p1 u.incs.length c1, .slice q1 u.axs.length d1, by omega, by go_num, ?_⟩, by simp [intOf]; omega⟩
        rw [HTK.out, HST.out, if_pos (by trivial)]
        exact HUS.out.setN (baL (ln.drop 5))
      have a1 := Bool.eq_false_iff.2 a1
      by_cases a2 : aft kwInc ln = true
      · obtain ⟨-, a3, a4⟩ := inc_ne a2
        rw [a1] at HK1 HST
        rw [a2] at HK2 HST
        rw [a3] at HK3 HST
        rw [a4] at HK4 HST
        clear a1 a2 a3 a4
        go_wp2_with (first | (go_at_call 68; (first | (with_reducible refine (HK1.out _).mono ?_) | (with_reducible refine (HK2.out _).mono ?_) | (with_reducible refine (HK3.out _).mono ?_) | (with_reducible refine (HK4.out _).mono ?_)); rintro e w2 ⟨rfl, rfl⟩) | (at_builtin; refine wpList_app1 rfl (.tmp 49) (.tmp 51) _ rfl w1.heap.size 9 1 16 elemStr (.slice p1 u.incs.length c1) _ _ rfl wr #[.string (baL (ln.drop 8))] rfl wr.heap.size rfl rfl HUS.out.ra rfl (by simp [Value.oneCell']) (by omega) (by unfold maxLen; omega) hqg.size ?_; intro v3 w3 ho3 hg3 hn3 hl3; obtain ⟨q3, k3, rfl⟩ := own_form ho3 (Nat.succ_pos _); have y3 := (World.cell?_of_block (a := ⟨w.heap.size + 1, 1, none⟩) (hg3.block _ zk.1 (fun e' => HUS.out.na e'.symm))).trans x1; have yf3 : w3.frozen? ⟨w.heap.size + 1, 1, none⟩ = false := (World.frozen?_of_block (a := ⟨w.heap.size + 1, 1, none⟩) (hg3.block _ zk.1 (fun e' => HUS.out.na e'.symm))).trans (xf 1); have zk3 := bsz (World.block_lt_of_cell? _ _ y3); have yl3 := (World.cell?_of_block (a := ⟨g, o + n, none⟩) (hg3.block _ zy.1 (fun e' => by have := own_base HUS.out.ra g e'.symm; have := hB'.2; omega))).trans y0; have zy3 := bsz (World.block_lt_of_cell? _ _ yl3)))
        refine ⟨⟨n + 1, .slice (some ⟨q3, 0, none⟩) (u.incs.length + 1) k3, .slice q1 u.axs.length d1, by omega, by go_num, ?_⟩, by simp [intOf]; omega⟩
        rw [HTK.out, HST.out, if_neg (by simp), if_pos (by trivial)]
        exact HUS.out.appI (r := baL (ln.drop 8)) ho3 hg3 hn3
      have a2 := Bool.eq_false_iff.2 a2
      by_cases a3 : aft kwAx ln = true
      · obtain ⟨-, -, a4⟩ := ax_ne a3
        rw [a1] at HK1 HST
        rw [a2] at HK2 HST
        rw [a3] at HK3 HST
        rw [a4] at HK4 HST
        clear a1 a2 a3 a4
        go_wp2_with (first | (go_at_call 68; (first | (with_reducible refine (HK1.out _).mono ?_) | (with_reducible refine (HK2.out _).mono ?_) | (with_reducible refine (HK3.out _).mono ?_) | (with_reducible refine (HK4.out _).mono ?_)); rintro e w2 ⟨rfl, rfl⟩) | (at_builtin; refine wpList_app1 rfl (.tmp 64) (.tmp 66) _ rfl w1.heap.size 9 1 16 elemStr (.slice q1 u.axs.length d1) _ _ rfl wr #[.string (baL (ln.drop 6))] rfl wr.heap.size rfl rfl HUS.out.rb rfl (by simp [Value.oneCell']) (by omega) (by unfold maxLen; omega) hqg.size ?_; intro v3 w3 ho3 hg3 hn3 hl3; obtain ⟨q3, k3, rfl⟩ := own_form ho3 (Nat.succ_pos _); have y3 := (World.cell?_of_block (a := ⟨w.heap.size + 1, 2, none⟩) (hg3.block _ zk.1 (fun e' => HUS.out.nb e'.symm))).trans x2; have yf3 : w3.frozen? ⟨w.heap.size + 1, 2, none⟩ = false := (World.frozen?_of_block (a := ⟨w.heap.size + 1, 2, none⟩) (hg3.block _ zk.1 (fun e' => HUS.out.nb e'.symm))).trans (xf 2); have zk3 := bsz (World.block_lt_of_cell? _ _ y3); have yl3 := (World.cell?_of_block (a := ⟨g, o + n, none⟩) (hg3.block _ zy.1 (fun e' => by have := own_base HUS.out.rb g e'.symm; have := hB'.2; omega))).trans y0; have zy3 := bsz (World.block_lt_of_cell? _ _ yl3)))
        refine ⟨⟨n + 1, .slice p1 u.incs.length c1, .slice (some ⟨q3, 0, none⟩) (u.axs.length + 1) k3, by omega, by go_num, ?_⟩, by simp [intOf]; omega⟩
        rw [HTK.out, HST.out, if_neg (by simp), if_neg (by simp), if_pos (by trivial)]
        exact HUS.out.appA (r := baL (ln.drop 6)) ho3 hg3 hn3
      have a3 := Bool.eq_false_iff.2 a3
      by_cases a4 : aft kwGoal ln = true
      · rw [a1] at HK1 HST
        rw [a2] at HK2 HST
        rw [a3] at HK3 HST
        rw [a4] at HK4 HST
        clear a1 a2 a3 a4
        go_wp2_with (first | (go_at_call 68; (first | (with_reducible refine (HK1.out _).mono ?_) | (with_reducible refine (HK2.out _).mono ?_) | (with_reducible refine (HK3.out _).mono ?_) | (with_reducible refine (HK4.out _).mono ?_)); rintro e w2 ⟨rfl, rfl⟩))
        refine ⟨⟨n + 1, .slice p1 u.incs.length c1, .slice q1 u.axs.length d1, by omega, by go_num, ?_⟩, by simp [intOf]; omega⟩
        rw [HTK.out, HST.out, if_neg (by simp), if_neg (by simp), if_neg (by simp), if_pos (by trivial)]
        exact HUS.out.setG (baL (ln.drop 5))
      · have a4 := Bool.eq_false_iff.2 a4
        rw [a1] at HK1 HST
        rw [a2] at HK2 HST
        rw [a3] at HK3 HST
        rw [a4] at HK4 HST
        clear a1 a2 a3 a4
        go_wp2_with (first | (go_at_call 68; (first | (with_reducible refine (HK1.out _).mono ?_) | (with_reducible refine (HK2.out _).mono ?_) | (with_reducible refine (HK3.out _).mono ?_) | (with_reducible refine (HK4.out _).mono ?_)); rintro e w2 ⟨rfl, rfl⟩))
        refine ⟨⟨n + 1, .slice p1 u.incs.length c1, .slice q1 u.axs.length d1, by omega, by go_num, ?_⟩, by simp [intOf]; omega⟩
        rw [HTK.out, HST.out, if_neg (by simp), if_neg (by simp), if_neg (by simp), if_neg (by simp)]
        exact HUS.out
    · obtain rfl : n = (splitF s.data.toList 10).length := by omega
      have hbw : Below w.heap.size w wr := Below.trans hb01 ⟨hqg.os, hqg.tape, hqg.output, hqg.size, fun b hb => hqg.block b (by omega) (by simp; omega)⟩
      have hwt := HWT.out (splitF s.data.toList 10).length
      rw [List.take_length] at hus hwt
      rw [show (splitF s.data.toList 10).foldl stS u0 = parS s.data.toList from rfl] at hus hwt
      have hzs := wt_sizes hwt
      have hml : 4 * (s.data.toList.length + 1) ≤ maxLen := by unfold maxLen; omega
      have HOW := Lib.hid (hus.own (Nat.le_trans hzs.1 hml) (Nat.le_trans hzs.2.1 hml) (fun x hx => Nat.le_trans (hzs.2.2.1 x hx) hml) (fun x hx => Nat.le_trans (hzs.2.2.2.1 x hx) hml))
      obtain ⟨p1, c1, q1, d1, rfl, rfl⟩ := hus.form
      obtain ⟨x0, x1, x2, x3, xf⟩ := hus.cells
      have zk := bsz hus.klt
      have hR : wr.heap[w.heap.size]? = some (.cells unitZ 34 (0, 0)) := (hqg.block _ (by omega) (by simp)).trans HR0.out
      have HPK := Lib.hid (show puOk s.data.toList = ((parS s.data.toList).good && (parS s.data.toList).txt == s.data.toList) from (puS_eq _).symm)
      have HPV := Lib.hid (show puV s.data.toList = if puOk s.data.toList then parS s.data.toList else u0 by rw [puV]; split; (exact (puS_same (by assumption)).symm); rfl)
      have hw12 : (parS s.data.toList).wt ≤ 1000000000000 := by omega
      have hwl : w.heap.size < wr.heap.size := by omega
      have HUB := Lib.hid hus
      clear hus HUS HU0 HR0 hzs hml hwt
      generalize parS s.data.toList = u at *
      cases hg : u.good
      · have HG := Lib.hid hg
        have HO := Lib.hid (show puOk s.data.toList = false by rw [HPK.out, hg]; rfl)
        clear hg
        go_wp2_with fail
        refine (l27Unit_any u _ _ _ _ wr HOW.out.at_ hw12).mono ?_
        rintro e w2 ⟨rfl, hb2⟩
        rw [HG.out]
        have hR2 := (hb2.block _ hwl).trans hR
        have rf : ∀ j, w2.frozen? ⟨w.heap.size, j, none⟩ = false := fun j => frozen_of_row w2 w.heap.size j _ _ hR2
        have r0 : w2.cell? ⟨w.heap.size, 0, none⟩ = some (.string ⟨#[]⟩) := by rw [cell_of_row w2 _ 0 _ _ (0, 0) hR2]; rfl
        have r1 : w2.cell? ⟨w.heap.size, 1, none⟩ = some (.slice none 0 0) := by rw [cell_of_row w2 _ 1 _ _ (0, 0) hR2]; rfl
        have r2 : w2.cell? ⟨w.heap.size, 2, none⟩ = some (.slice none 0 0) := by rw [cell_of_row w2 _ 2 _ _ (0, 0) hR2]; rfl
        have r3 : w2.cell? ⟨w.heap.size, 3, none⟩ = some (.string ⟨#[]⟩) := by rw [cell_of_row w2 _ 3 _ _ (0, 0) hR2]; rfl
        have zr := bsz (World.block_lt_of_cell? _ _ r0)
        clear hR2
        go_wp2
        refine bodyPost_ret (v := .tuple #[.agg #[.string ⟨#[]⟩, .slice none 0 0, .slice none 0 0, .string ⟨#[]⟩], .bool false]) (by simp only [results, Tryz.results26]; go_simp) rfl ⟨_, _, _, _, by rw [HO.out], by rw [HPV.out, HO.out]; exact (UnOwn.zero 9 _ _).at_, by exact bel⟩
      · have HG := Lib.hid hg
        have HP2 := Lib.hid (show puOk s.data.toList = (u.txt == s.data.toList) by rw [HPK.out, hg, Bool.true_and])
        clear hg
        cases ht : (u.txt == s.data.toList)
        all_goals
          have HO := Lib.hid (HP2.out.trans ht)
          have hT := (show (u.txt == s.toList) = (u.txt == s.data.toList) by rw [ByteArray.toList_eq]).trans ht
          clear ht
          go_wp2_with fail
          refine (l27Unit_any u _ _ _ _ wr HOW.out.at_ hw12).mono ?_
          rintro e w2 ⟨rfl, hb2⟩
          rw [HG.out]
          have hk2 := HUB.out.below hb2
          obtain ⟨y0, y1, y2, y3, yf⟩ := hk2.cells
          have zk2 := bsz hk2.klt
          clear hk2
          go_wp2_with fail
          refine (l27Lines_any u _ _ _ _ w2 (HOW.out.at_.below hb2) hw12).mono ?_
          rintro e w3 ⟨rfl, hb3⟩
          have hR3 := (hb3.block _ (Nat.lt_of_lt_of_le hwl hb2.size)).trans ((hb2.block _ hwl).trans hR)
          have rf : ∀ j, w3.frozen? ⟨w.heap.size, j, none⟩ = false := fun j => frozen_of_row w3 w.heap.size j _ _ hR3
          have r0 : w3.cell? ⟨w.heap.size, 0, none⟩ = some (.string ⟨#[]⟩) := by rw [cell_of_row w3 _ 0 _ _ (0, 0) hR3]; rfl
          have r1 : w3.cell? ⟨w.heap.size, 1, none⟩ = some (.slice none 0 0) := by rw [cell_of_row w3 _ 1 _ _ (0, 0) hR3]; rfl
          have r2 : w3.cell? ⟨w.heap.size, 2, none⟩ = some (.slice none 0 0) := by rw [cell_of_row w3 _ 2 _ _ (0, 0) hR3]; rfl
          have r3 : w3.cell? ⟨w.heap.size, 3, none⟩ = some (.string ⟨#[]⟩) := by rw [cell_of_row w3 _ 3 _ _ (0, 0) hR3]; rfl
          have zr := bsz (World.block_lt_of_cell? _ _ r0)
          have hk3 := (HUB.out.below hb2).below hb3
          obtain ⟨t0, t1, t2, t3, tf⟩ := hk3.cells
          have zk3 := bsz hk3.klt
          clear hk3 hR3
          go_wp2
        · refine bodyPost_ret (v := .tuple #[.agg #[.string ⟨#[]⟩, .slice none 0 0, .slice none 0 0, .string ⟨#[]⟩], .bool false]) (by simp only [results, Tryz.results26]; go_simp) rfl ⟨_, _, _, _, by rw [HO.out], by rw [HPV.out, HO.out]; exact (UnOwn.zero 9 _ _).at_, by exact bel⟩
        · refine bodyPost_ret (v := .tuple #[.agg #[.string u.name, .slice p1 u.incs.length c1, .slice q1 u.axs.length d1, .string u.goal], .bool true]) (by simp only [results, Tryz.results26]; go_simp) rfl ⟨_, _, _, _, by rw [HO.out], ?_, by exact bel⟩
          rw [HPV.out, HO.out, if_pos rfl]
          refine ((HOW.out.later hb2).later hb3).at_.mono (fun b hb hlt => ?_) (fun b hb => ⟨by have := hb.1; omega, by have := hb.2; have := hb2.size; have := hb3.size; simp; omega⟩)
          have hne : b ≠ w.heap.size := by have := hb.1; omega
          exact (heap_setCell_other _ _ b _ hne).trans ((heap_setCell_other _ _ b _ hne).trans ((heap_setCell_other _ _ b _ hne).trans (heap_setCell_other _ _ b _ hne)))
end Go.Proofs.YtkgfanajgdelcaaGreatDoor
