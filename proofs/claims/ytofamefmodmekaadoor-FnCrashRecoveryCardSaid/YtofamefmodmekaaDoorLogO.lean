/- How the reference reads all records of a text: the walk. Conditions: sizes. -/
import Derived.Test.YtofamefmodmekaaDoorLogS
namespace Go.Proofs.YtofamefmodmekaaDoor
open Go.RowKit
theorem read_stepS {s : List UInt8} {ps : List Rec} (h60 : ps.length < 60) (hall : allF s = ps ++ parseF (60 - ps.length) ps.length (s.drop (lenR 0 ps))) (hle : lenR 0 ps ≤ s.length)
    (h1 : (cut1 (s.drop (lenR 0 ps)) 10).2.2 = true) (h2 : (readS ps.length (cut1 (s.drop (lenR 0 ps)) 10).1).2 = true) :
    allF s = (ps ++ [(readS ps.length (cut1 (s.drop (lenR 0 ps)) 10).1).1]) ++ parseF (60 - (ps.length + 1)) (ps.length + 1) (s.drop (lenR 0 (ps ++ [(readS ps.length (cut1 (s.drop (lenR 0 ps)) 10).1).1]))) ∧
    lenR 0 (ps ++ [(readS ps.length (cut1 (s.drop (lenR 0 ps)) 10).1).1]) ≤ s.length ∧ lenR 0 (ps ++ [(readS ps.length (cut1 (s.drop (lenR 0 ps)) 10).1).1]) = lenR 0 ps + ((cut1 (s.drop (lenR 0 ps)) 10).1.length + 1) := by
  have hn := next_readS ps.length (s.drop (lenR 0 ps))
  rw [h1, h2, Bool.and_self, if_pos rfl] at hn
  have h3 := (readS_sound h2).2
  have hl : lenR 0 (ps ++ [(readS ps.length (cut1 (s.drop (lenR 0 ps)) 10).1).1]) = lenR 0 ps + ((cut1 (s.drop (lenR 0 ps)) 10).1.length + 1) := by
    rw [lenR_snoc, Nat.zero_add, h3, List.length_append]; rfl
  refine ⟨?_, ?_, hl⟩
  · conv => lhs; rw [hall, show 60 - ps.length = (60 - (ps.length + 1)) + 1 by omega, parseF, hn]
    dsimp only
    rw [hl, h3, List.drop_drop, List.length_append, List.append_assoc]; rfl
  · have := congrArg List.length (cut1_found _ _ h1)
    rw [List.length_drop, List.length_append, List.length_cons] at this
    omega
theorem read_stopS {s : List UInt8} {ps : List Rec} (hall : allF s = ps ++ parseF (60 - ps.length) ps.length (s.drop (lenR 0 ps)))
    (h : 60 ≤ ps.length ∨ s.length ≤ lenR 0 ps ∨ ((cut1 (s.drop (lenR 0 ps)) 10).2.2 && (readS ps.length (cut1 (s.drop (lenR 0 ps)) 10).1).2) = false) : allF s = ps := by
  rw [hall]
  rcases h with h | h | h
  · rw [show 60 - ps.length = 0 by omega, parseF, List.append_nil]
  · rw [List.drop_eq_nil_of_le h, parse_nil, List.append_nil]
  · have hn := next_readS ps.length (s.drop (lenR 0 ps))
    rw [h, if_neg (by simp)] at hn
    cases hm : 60 - ps.length with
    | zero => rw [parseF, List.append_nil]
    | succ m => rw [parseF, hn, List.append_nil]
theorem grown_cell {w w' : World} {row : Option Nat} (hg : w.grownBy w' row) {g o : Nat} {v : Value} (hc : w.cell? ⟨g, o, none⟩ = some v) (hne : some g ≠ row) : w'.cell? ⟨g, o, none⟩ = some v :=
  (World.cell?_of_block (hg.block g (World.block_lt_of_cell? w _ hc) hne)).trans hc
theorem own_lt {w : World} {base : Nat} {e : TypeId} {size : Nat} {n : Nat} {xs : List Value} {g c : Nat} (h : w.ownsRow base e size (.slice (some ⟨g, 0, none⟩) n c) n xs) : g < w.heap.size := by
  rcases h.2 with ⟨h, _⟩ | ⟨g', cap, cur, hv, _, hh, _⟩
  · cases h
  · injection hv with hv
    injection hv with hv
    injection hv with hv
    subst hv
    rcases Nat.lt_or_ge g w.heap.size with hlt | hge
    · exact hlt
    · rw [Array.getElem?_eq_none hge] at hh; cases hh
theorem ne_block {g g2 a n c : Nat} (h : g < a) (h2 : a ≤ g2) : some g2 ≠ (Value.slice (some ⟨g, 0, none⟩) n c).ownBlock := by
  simp only [Value.ownBlock, ne_eq, Option.some.injEq]; omega
theorem wrap_sum2 {a b m : Nat} (e : b = a + (m + 1)) (h : a ≤ 4294967296 ∧ m ≤ 4294967296) : wrap64 (wrap64 ((a : Nat) + ((m : Nat) : Int)) + 1) = ((b : Nat) : Int) := by
  rw [e, IntWalk.wrap64_in ((a : Nat) + ((m : Nat) : Int)) (by omega), IntWalk.wrap64_in _ (by omega)]; omega
def OpenRel (s : ByteArray) (w : World) (out at_ : Value) (wr : World) : Prop :=
  ∃ (ps : List Rec) (g c : Nat), allF s.data.toList = ps ++ parseF (60 - ps.length) ps.length (s.data.toList.drop (lenR 0 ps)) ∧ ps.length ≤ 60 ∧ lenR 0 ps ≤ s.size ∧
    out = .slice (some ⟨g, 0, none⟩) ps.length c ∧ at_ = .int .i64 (lenR 0 ps : Nat) ∧ wr.ownsRow w.heap.size 27 2 out ps.length (recV ps) ∧ Below w.heap.size w wr
def OpenPost (s : ByteArray) (w : World) (e : Ending) (w' : World) : Prop :=
  ∃ (g c : Nat), e = .returned (.tuple #[.slice (some ⟨g, 0, none⟩) (allF s.data.toList).length c, .int .i64 (lenR 0 (allF s.data.toList) : Nat)]) ∧
    w'.ownsRow w.heap.size 27 2 (.slice (some ⟨g, 0, none⟩) (allF s.data.toList).length c) (allF s.data.toList).length (recV (allF s.data.toList)) ∧ Below w.heap.size w w'
set_option maxRecDepth 100000 in
set_option maxHeartbeats 1600000 in
theorem l28Open_any (s : ByteArray) (w : World) (hs : s.size ≤ 1000000) : Calls Tryd.prog 47 #[.string s] w (OpenPost s w) := by
  go_enter Tryd.func47, Tryd.ntmps47
  go_wp2
  go_loopw [4, 5] (OpenRel s w) (fun _ a _ => s.size + 1 - (intOf a).toNat)
  case atStart =>
    refine ⟨[], _, _, rfl, by simp, Nat.zero_le _, rfl, rfl, ?_, ?_⟩
    · exact row_empty _ _ _ _ (Nat.le_refl _)
    · exact (by (repeat (first | exact Below.refl _ _ | assumption | refine Below.al ?_ _ | refine Below.sc ?_ (by first | exact Nat.le_refl _ | (simp; done) | (simp; omega)) _ | refine Below.dr ?_ | refine Below.drN ?_ _ | refine Below.step ?_ (by assumption))))
  case round =>
    obtain ⟨ps, g, c, hall, hn, hle, rfl, rfl, ho1, hb⟩ := hrel
    have HA := Lib.hid hall; clear hall
    have HO1 := Lib.hid ho1; clear ho1
    by_cases hat : lenR 0 ps < s.size
    · by_cases h60 : ps.length < 60
      · have HT := Lib.hid (show (s.extract (lenR 0 ps) s.size).data.toList = s.data.toList.drop (lenR 0 ps) by rw [extract_list, take_all _ _ (Nat.le_refl _)])
        have ht : (s.data.toList.drop (lenR 0 ps)).length ≤ s.size := by rw [List.length_drop, ← size_list]; omega
        have h1 := (cut1_len (s.data.toList.drop (lenR 0 ps)) 10).1
        have H0 := Lib.hid (show (s.data.toList.drop (lenR 0 ps)).length ≤ 1000000000 by omega)
        have H1 := Lib.hid (show (cut1 (s.data.toList.drop (lenR 0 ps)) 10).1.length ≤ 1000000 by omega)
        clear ht h1
        cases hf : (cut1 (s.data.toList.drop (lenR 0 ps)) 10).2.2
        · have HF := Lib.hid hf
          go_wp2_with (first | (go_at_call 68; refine (split_head _ _ 10 10 _ rfl HT.out H0.out).mono ?_; rintro e w2 ⟨g2, n2, c2, rfl, hn2, hn22, hc2, ⟨hga2, hgb2⟩, hb2⟩; have ⟨cw2, fw2⟩ := bcell hb2; have qw2 := hb2.size; (try simp at qw2); have hd2 := head_lt hn22 HF.out; clear hn22) | (go_at_call 69; refine (l28Read_any _ _ ps.length _ rfl H1.out hn).mono ?_; rintro e w3 ⟨rfl, hb3⟩; have ⟨cw3, fw3⟩ := bcell hb3; have qw3 := hb3.size; (try simp at qw3); have hgb3 : g2 < w3.heap.size := by omega))
          go_ret2
          have hA' : allF s.data.toList = ps := read_stopS HA.out (.inr (.inr (by rw [HF.out]; rfl)))
          unfold OpenPost
          rw [hA']
          exact ⟨g, c, rfl, own_below HO1.out (by (repeat (first | exact Below.refl _ _ | assumption | refine Below.al ?_ _ | refine Below.sc ?_ (by first | exact Nat.le_refl _ | (simp; done) | (simp; omega)) _ | refine Below.dr ?_ | refine Below.drN ?_ _ | refine Below.step ?_ (by assumption)))), by (repeat (first | exact Below.refl _ _ | assumption | refine Below.al ?_ _ | refine Below.sc ?_ (by first | exact Nat.le_refl _ | (simp; done) | (simp; omega)) _ | refine Below.dr ?_ | refine Below.drN ?_ _ | refine Below.step ?_ (by assumption)))⟩
        · have HF := Lib.hid hf
          cases hok : (readS ps.length (cut1 (s.data.toList.drop (lenR 0 ps)) 10).1).2
          · have HK := Lib.hid hok
            go_wp2_with (first | (go_at_call 68; refine (split_head _ _ 10 10 _ rfl HT.out H0.out).mono ?_; rintro e w2 ⟨g2, n2, c2, rfl, hn2, hn22, hc2, ⟨hga2, hgb2⟩, hb2⟩; have ⟨cw2, fw2⟩ := bcell hb2; have qw2 := hb2.size; (try simp at qw2); have hd2 := head_ge hn22 HF.out; clear hn22) | (go_at_call 69; refine (l28Read_any _ _ ps.length _ rfl H1.out hn).mono ?_; rintro e w3 ⟨rfl, hb3⟩; have ⟨cw3, fw3⟩ := bcell hb3; have qw3 := hb3.size; (try simp at qw3); have hgb3 : g2 < w3.heap.size := by omega))
            go_ret2
            have hA' : allF s.data.toList = ps := read_stopS HA.out (.inr (.inr (by rw [HF.out, HK.out]; rfl)))
            unfold OpenPost
            rw [hA']
            exact ⟨g, c, rfl, own_below HO1.out (by (repeat (first | exact Below.refl _ _ | assumption | refine Below.al ?_ _ | refine Below.sc ?_ (by first | exact Nat.le_refl _ | (simp; done) | (simp; omega)) _ | refine Below.dr ?_ | refine Below.drN ?_ _ | refine Below.step ?_ (by assumption)))), by (repeat (first | exact Below.refl _ _ | assumption | refine Below.al ?_ _ | refine Below.sc ?_ (by first | exact Nat.le_refl _ | (simp; done) | (simp; omega)) _ | refine Below.dr ?_ | refine Below.drN ?_ _ | refine Below.step ?_ (by assumption)))⟩
          · have HK := Lib.hid hok
            have hgl := own_lt HO1.out
            have HST := Lib.hid (read_stepS h60 HA.out (by rw [← size_list]; exact hle) hf hok)
            have hl1 : (ps.length + 1) * 32 ≤ 140737488355328 := by omega
            have hl3 : ps.length + 1 ≤ maxLen := by unfold maxLen; omega
            go_wp2_with (first | (go_at_call 68; refine (split_head _ _ 10 10 _ rfl HT.out H0.out).mono ?_; rintro e w2 ⟨g2, n2, c2, rfl, hn2, hn22, hc2, ⟨hga2, hgb2⟩, hb2⟩; have ⟨cw2, fw2⟩ := bcell hb2; have qw2 := hb2.size; (try simp at qw2); have hd2 := head_ge hn22 HF.out; clear hn22) | (go_at_call 69; refine (l28Read_any _ _ ps.length _ rfl H1.out hn).mono ?_; rintro e w3 ⟨rfl, hb3⟩; have ⟨cw3, fw3⟩ := bcell hb3; have qw3 := hb3.size; (try simp at qw3); have hgb3 : g2 < w3.heap.size := by omega) | (at_builtin; refine wpList_app1 rfl (.tmp 39) (.tmp 41) _ rfl w.heap.size 27 2 32 elemRec _ _ _ rfl _ _ rfl _ (by simp) rfl (own_below HO1.out (by (repeat (first | exact Below.refl _ _ | assumption | refine Below.al ?_ _ | refine Below.sc ?_ (by first | exact Nat.le_refl _ | (simp; done) | (simp; omega)) _ | refine Below.dr ?_ | refine Below.drN ?_ _ | refine Below.step ?_ (by assumption))))) rfl (by simp [Value.oneCell']) hl1 hl3 (show Below w.heap.size w _ from (by (repeat (first | exact Below.refl _ _ | assumption | refine Below.al ?_ _ | refine Below.sc ?_ (by first | exact Nat.le_refl _ | (simp; done) | (simp; omega)) _ | refine Below.dr ?_ | refine Below.drN ?_ _ | refine Below.step ?_ (by assumption))))).size ?_; intro v4 w4 ho4 hg4 hr4 hz4; have hc4 : w4.cell? ⟨g2, 0, none⟩ = some (.string ⟨(cut1 (s.data.toList.drop (lenR 0 ps)) 10).1.toArray⟩) := grown_cell hg4 (by go_simp) (ne_block hgl hga2)))
            case roundEnd =>
              have e := HST.out
              have hbr : Below wr.heap.size wr (w3.alloc (.cells #[.string ⟨(readS ps.length (cut1 (s.data.toList.drop (lenR 0 ps)) 10).1).1.1.toArray⟩, .string ⟨(readS ps.length (cut1 (s.data.toList.drop (lenR 0 ps)) 10).1).1.2.toArray⟩] 27)) := by (repeat (first | exact Below.refl _ _ | assumption | refine Below.al ?_ _ | refine Below.sc ?_ (by first | exact Nat.le_refl _ | (simp; done) | (simp; omega)) _ | refine Below.dr ?_ | refine Below.drN ?_ _ | refine Below.step ?_ (by assumption)))
              have hbw := Below.step hb hbr
              have hl := H1.out
              clear hb2 hb3
              go_light
              have hk1 := own_below HO1.out hbr
              obtain ⟨g4, c4, rfl⟩ := own_form ho4 (by omega)
              have hn1 : (ps ++ [(readS ps.length (cut1 (s.data.toList.drop (lenR 0 ps)) 10).1).1]).length = ps.length + 1 := by simp
              have hat : wrap64 (wrap64 ((lenR 0 ps : Nat) + ((cut1 (s.data.toList.drop (lenR 0 ps)) 10).1.length : Nat)) + 1) = ((lenR 0 (ps ++ [(readS ps.length (cut1 (s.data.toList.drop (lenR 0 ps)) 10).1).1]) : Nat) : Int) := by
                exact wrap_sum2 e.2.2 (by omega)
              have hle' := e.2.1
              rw [← size_list] at hle'
              refine ⟨⟨ps ++ [(readS ps.length (cut1 (s.data.toList.drop (lenR 0 ps)) 10).1).1], g4, c4, ?_, ?_, hle', ?_, ?_, ?_, ?_⟩, ?_⟩
              · rw [hn1]; exact e.1
              · rw [hn1]; omega
              · rw [hn1]
              · rw [hat]
              · rw [hn1, recV_snoc]; exact ho4
              · exact hbw.grown hg4 hbw.size (own_base hk1)
              · rw [hat]; exact meas_down e.2.2 hle'
      · go_wp2
        go_ret2
        have hA' : allF s.data.toList = ps := read_stopS HA.out (.inl (by omega))
        unfold OpenPost
        rw [hA']
        exact ⟨g, c, rfl, own_below HO1.out (by (repeat (first | exact Below.refl _ _ | assumption | refine Below.al ?_ _ | refine Below.sc ?_ (by first | exact Nat.le_refl _ | (simp; done) | (simp; omega)) _ | refine Below.dr ?_ | refine Below.drN ?_ _ | refine Below.step ?_ (by assumption)))), by (repeat (first | exact Below.refl _ _ | assumption | refine Below.al ?_ _ | refine Below.sc ?_ (by first | exact Nat.le_refl _ | (simp; done) | (simp; omega)) _ | refine Below.dr ?_ | refine Below.drN ?_ _ | refine Below.step ?_ (by assumption)))⟩
    · have hat' : ¬ (lenR 0 ps : Int) < s.size := by omega
      go_wp2
      go_ret2
      have hA' : allF s.data.toList = ps := read_stopS HA.out (.inr (.inl (by rw [← size_list]; omega)))
      unfold OpenPost
      rw [hA']
      exact ⟨g, c, rfl, own_below HO1.out (by (repeat (first | exact Below.refl _ _ | assumption | refine Below.al ?_ _ | refine Below.sc ?_ (by first | exact Nat.le_refl _ | (simp; done) | (simp; omega)) _ | refine Below.dr ?_ | refine Below.drN ?_ _ | refine Below.step ?_ (by assumption)))), by (repeat (first | exact Below.refl _ _ | assumption | refine Below.al ?_ _ | refine Below.sc ?_ (by first | exact Nat.le_refl _ | (simp; done) | (simp; omega)) _ | refine Below.dr ?_ | refine Below.drN ?_ _ | refine Below.step ?_ (by assumption)))⟩
end Go.Proofs.YtofamefmodmekaaDoor
