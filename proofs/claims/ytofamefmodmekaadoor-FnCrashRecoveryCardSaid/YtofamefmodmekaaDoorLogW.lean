/- How the program and the reference read a log: the walks of their readers. Conditions: sizes; the package tables lie as they were laid. -/
import Derived.Test.YtofamefmodmekaaDoorLogF
namespace Go.Proofs.YtofamefmodmekaaDoor
open Go.RowKit
theorem cut_any (s : ByteArray) (b : UInt8) (w : World) (hE : Env w) (hs : s.size < 4294967281) :
    Calls Tryd.prog 70 #[.string s, .string ⟨#[b]⟩] w fun e w' => e = .returned (.tuple #[.string ⟨(cut1 s.data.toList b).1.toArray⟩, .string ⟨(cut1 s.data.toList b).2.1.toArray⟩, .bool (cut1 s.data.toList b).2.2]) ∧ Below w.heap.size w w' := by
  obtain ⟨m, hm⟩ := hE.maxLen
  exact (Tryd.strings_Cut s ⟨#[b]⟩ m w hs hm).mono fun _ _ ⟨he, n, hw⟩ => ⟨by rw [he, ← cut_one], by rw [hw]; exact below_drewN (Below.refl _ _) n⟩
theorem cut_at (s : ByteArray) (T : List UInt8) (b : UInt8) (w : World) (hT : s.data.toList = T) (hE : Env w) (hs : T.length < 4294967281) :
    Calls Tryd.prog 70 #[.string s, .string ⟨#[b]⟩] w fun e w' => e = .returned (.tuple #[.string ⟨(cut1 T b).1.toArray⟩, .string ⟨(cut1 T b).2.1.toArray⟩, .bool (cut1 T b).2.2]) ∧ Below w.heap.size w w' := by
  subst hT; exact cut_any s b w hE hs
theorem cut1_len (l : List UInt8) (b : UInt8) : (cut1 l b).1.length ≤ l.length ∧ (cut1 l b).2.1.length ≤ l.length := by
  induction l with
  | nil => simp [cut1]
  | cons x l ih =>
    rw [cut1]
    split
    · simp
    · simp only [List.length_cons]; omega
theorem bodyR_len (t : List UInt8) : (bodyR t).1.length ≤ t.length ∧ (bodyR t).2.length ≤ t.length := by
  unfold bodyR
  have h1 := cut1_len t 35
  have h2 := cut1_len (cut1 t 35).1 32
  have h3 := cut1_len (cut1 (cut1 t 35).1 32).2.1 64
  exact ⟨by dsimp only; omega, by dsimp only; omega⟩
/-- Two rows of different element types are two blocks. -/
theorem own_apart {w : World} {b1 b2 : Nat} {e1 e2 : TypeId} {z1 z2 : Nat} {v1 v2 : Value} {n1 n2 : Nat} {xs1 xs2 : List Value} (h1 : w.ownsRow b1 e1 z1 v1 n1 xs1) (h2 : w.ownsRow b2 e2 z2 v2 n2 xs2) (hne : e1 ≠ e2) :
    v1.ownBlock = none ∨ v1.ownBlock ≠ v2.ownBlock := by
  rcases h1.2 with ⟨rfl, _⟩ | ⟨g1, c1, cur1, rfl, _, hg1, _⟩
  · exact .inl rfl
  · right
    rcases h2.2 with ⟨rfl, _⟩ | ⟨g2, c2, cur2, rfl, _, hg2, _⟩
    · simp [Value.ownBlock]
    · simp only [Value.ownBlock, ne_eq, Option.some.injEq]
      rintro rfl
      rw [hg1] at hg2
      injection hg2 with hg2
      injection hg2 with _ ht
      exact hne ht
theorem own_form {w : World} {base : Nat} {e : TypeId} {size : Nat} {v : Value} {n : Nat} {xs : List Value} (h : w.ownsRow base e size v n xs) (hn : 0 < n) : ∃ g cap, v = .slice (some ⟨g, 0, none⟩) n cap := by
  rcases h.2 with ⟨_, h0⟩ | ⟨g, cap, cur, hv, _⟩
  · omega
  · exact ⟨g, cap, hv⟩
theorem meas_down {n a b m : Nat} (e : b = a + (m + 1)) (h : b ≤ n) : n + 1 - ((b : Nat) : Int).toNat < n + 1 - ((a : Nat) : Int).toNat := by omega
theorem wrap_sum {a b m : Nat} (e : b = a + (m + 1)) (h : a ≤ 4294967296 ∧ m ≤ 4294967296) : wrap64 ((a : Nat) + ((m : Nat) + 1 : Int)) = ((b : Nat) : Int) := by
  rw [e, IntWalk.wrap64_in _ (by omega)]; omega
/-- An own row while only blocks from another row, or new ones, turn. -/
theorem own_below {w w' : World} {base : Nat} {e : TypeId} {size : Nat} {v : Value} {n : Nat} {xs : List Value} (h : w.ownsRow base e size v n xs) (hb : Below w.heap.size w w') : w'.ownsRow base e size v n xs :=
  h.kept (row := none) ⟨hb.os, hb.tape, hb.output, hb.size, fun k hk _ => hb.block k hk⟩ (by cases hv : v.ownBlock <;> simp)
def recV (ps : List Rec) : List Value := ps.flatMap fun p => [.string ⟨p.1.toArray⟩, .string ⟨p.2.toArray⟩]
theorem recV_snoc (ps : List Rec) (p : Rec) : recV (ps ++ [p]) = recV ps ++ [.string ⟨p.1.toArray⟩, .string ⟨p.2.toArray⟩] := by simp [recV]
def natV (l : List Nat) : List Value := l.map fun (n : Nat) => Value.int .i64 (n : Int)
theorem natV_snoc (l : List Nat) (n : Nat) : natV (l ++ [n]) = natV l ++ [.int .i64 (n : Int)] := by simp [natV]
theorem elemRec : Elem Tryd.prog 48 27 2 32 := elem_of Tryd.underlying48 (z := .agg #[.string ⟨#[]⟩, .string ⟨#[]⟩]) (by kernel_rfl) rfl (by omega)
theorem elemInt : Elem Tryd.prog 66 3 1 8 := elem_of Tryd.underlying66 (z := .int .i64 0) (by kernel_rfl) rfl (by omega)
/-- After some rounds: the records read so far, where they end, where the reading stands. -/
def ReadRel (s : ByteArray) (w : World) (list ends at_ : Value) (wr : World) : Prop :=
  ∃ (ps : List Rec) (g c g' c' : Nat), allF s.data.toList = ps ++ parseF (60 - ps.length) ps.length (s.data.toList.drop (lenR 0 ps)) ∧ ps.length ≤ 60 ∧ lenR 0 ps ≤ s.size ∧
    list = .slice (some ⟨g, 0, none⟩) ps.length c ∧ ends = .slice (some ⟨g', 0, none⟩) ps.length c' ∧ at_ = .int .i64 (lenR 0 ps : Nat) ∧
    wr.ownsRow w.heap.size 27 2 list ps.length (recV ps) ∧ wr.ownsRow w.heap.size 3 1 ends ps.length (natV (endsF 0 0 ps)) ∧ Below w.heap.size w wr
def ReadPost (s : ByteArray) (w : World) (e : Ending) (w' : World) : Prop :=
  ∃ (g c g' c' : Nat), e = .returned (.tuple #[.slice (some ⟨g, 0, none⟩) (allF s.data.toList).length c, .slice (some ⟨g', 0, none⟩) (allF s.data.toList).length c']) ∧
    w'.ownsRow w.heap.size 27 2 (.slice (some ⟨g, 0, none⟩) (allF s.data.toList).length c) (allF s.data.toList).length (recV (allF s.data.toList)) ∧
    w'.ownsRow w.heap.size 3 1 (.slice (some ⟨g', 0, none⟩) (allF s.data.toList).length c') (allF s.data.toList).length (natV (endsF 0 0 (allF s.data.toList))) ∧ Below w.heap.size w w'
theorem isValid_at (c r : ByteArray) (p : Rec) (w : World) (hp : c.data.toList = p.1 ∧ r.data.toList = p.2) (hc : p.1.length ≤ maxLen) (hr : p.2.length ≤ maxLen) :
    Calls Tryd.prog 37 #[.agg #[.string c, .string r]] w fun e w' => e = .returned (.bool (goodR p)) ∧ Below w.heap.size w w' := by
  have h := isValidRecord_any c r w (by rw [size_list, hp.1]; exact hc) (by rw [size_list, hp.2]; exact hr)
  rw [hp.1, hp.2] at h; exact h
theorem encode_at (k : Nat) (c r : ByteArray) (p : Rec) (w : World) (hp : c.data.toList = p.1 ∧ r.data.toList = p.2) (hE : Env w) (hk : k ≤ 60) (hg : goodR p = true) :
    Calls Tryd.prog 46 #[.int .i64 (k : Int), .agg #[.string c, .string r]] w fun e w' => e = .returned (.string ⟨(encR k p).toArray⟩) ∧ Below w.heap.size w w' := by
  have h := encodeRecord_ok (k : Int) c r w hE (by omega) (by omega) (by rw [hp.1, hp.2]; exact hg)
  rw [hp.1, hp.2] at h; exact h
theorem read_step {s : List UInt8} {ps : List Rec} (h60 : ps.length < 60) (hall : allF s = ps ++ parseF (60 - ps.length) ps.length (s.drop (lenR 0 ps))) (hle : lenR 0 ps ≤ s.length)
    (h1 : (cut1 (s.drop (lenR 0 ps)) 10).2.2 = true) (h2 : goodR (bodyR (cut1 (s.drop (lenR 0 ps)) 10).1) = true) (h3 : (encR ps.length (bodyR (cut1 (s.drop (lenR 0 ps)) 10).1) == (cut1 (s.drop (lenR 0 ps)) 10).1 ++ [10]) = true) :
    allF s = (ps ++ [bodyR (cut1 (s.drop (lenR 0 ps)) 10).1]) ++ parseF (60 - (ps.length + 1)) (ps.length + 1) (s.drop (lenR 0 (ps ++ [bodyR (cut1 (s.drop (lenR 0 ps)) 10).1]))) ∧
    lenR 0 (ps ++ [bodyR (cut1 (s.drop (lenR 0 ps)) 10).1]) ≤ s.length ∧ lenR 0 (ps ++ [bodyR (cut1 (s.drop (lenR 0 ps)) 10).1]) = lenR 0 ps + ((cut1 (s.drop (lenR 0 ps)) 10).1.length + 1) := by
  have hn : nextF ps.length (s.drop (lenR 0 ps)) = some (bodyR (cut1 (s.drop (lenR 0 ps)) 10).1) := by unfold nextF; rw [h1, h2, h3]; rfl
  have hl : lenR 0 (ps ++ [bodyR (cut1 (s.drop (lenR 0 ps)) 10).1]) = lenR 0 ps + ((cut1 (s.drop (lenR 0 ps)) 10).1.length + 1) := by
    rw [lenR_snoc, Nat.zero_add, eq_of_beq h3, List.length_append]; rfl
  refine ⟨?_, ?_, hl⟩
  · conv => lhs; rw [hall, show 60 - ps.length = (60 - (ps.length + 1)) + 1 by omega, parseF, hn]
    dsimp only
    rw [hl, eq_of_beq h3, List.drop_drop, List.length_append, List.append_assoc]; rfl
  · have := congrArg List.length (cut1_found _ _ h1)
    rw [List.length_drop, List.length_append, List.length_cons] at this
    omega
theorem read_stop {s : List UInt8} {ps : List Rec} (hall : allF s = ps ++ parseF (60 - ps.length) ps.length (s.drop (lenR 0 ps)))
    (h : 60 ≤ ps.length ∨ ((cut1 (s.drop (lenR 0 ps)) 10).2.2 && goodR (bodyR (cut1 (s.drop (lenR 0 ps)) 10).1) && (encR ps.length (bodyR (cut1 (s.drop (lenR 0 ps)) 10).1) == (cut1 (s.drop (lenR 0 ps)) 10).1 ++ [10])) = false) : allF s = ps := by
  rw [hall]
  rcases h with h | h
  · rw [show 60 - ps.length = 0 by omega, parseF, List.append_nil]
  · have hn : nextF ps.length (s.drop (lenR 0 ps)) = none := by unfold nextF; rw [h]; rfl
    cases hm : 60 - ps.length with
    | zero => rw [parseF, List.append_nil]
    | succ m => rw [parseF, hn, List.append_nil]
set_option maxRecDepth 100000 in
set_option maxHeartbeats 1600000 in
theorem readRecords_any (s : ByteArray) (w : World) (hE : Env w) (hs : s.size < 4294967281) : Calls Tryd.prog 48 #[.string s] w (ReadPost s w) := by
  have HE := Lib.hid hE
  clear hE
  go_enter Tryd.func48, Tryd.ntmps48
  go_wp2
  go_loopw [4, 5, 6] (ReadRel s w) (fun _ _ a _ => s.size + 1 - (intOf a).toNat)
  case atStart =>
    refine ⟨[], _, _, _, _, rfl, by simp, Nat.zero_le _, rfl, rfl, rfl, ?_, ?_, ?_⟩
    · exact (row_empty _ _ _ _ (Nat.le_refl _)).alloc _
    · have := row_empty (w.alloc (.cells #[] 27)) w.heap.size 3 1 (by simp)
      rw [World.size_alloc] at this
      exact this
    · exact (by (repeat (first | exact Below.refl _ _ | assumption | refine Below.al ?_ _ | refine Below.sc ?_ (by first | exact Nat.le_refl _ | (simp; done) | (simp; omega)) _ | refine Below.dr ?_ | refine Below.drN ?_ _ | refine Below.step ?_ (by assumption))))
  case round =>
    obtain ⟨ps, g, c, g', c', hall, hn, hle, rfl, rfl, rfl, ho1, ho2, hb⟩ := hrel
    have HA := Lib.hid hall; clear hall
    have HO1 := Lib.hid ho1; clear ho1
    have HO2 := Lib.hid ho2; clear ho2
    by_cases h60 : ps.length < 60
    · have HT := Lib.hid (show (s.extract (lenR 0 ps) s.size).data.toList = s.data.toList.drop (lenR 0 ps) by rw [extract_list, take_all _ _ (Nat.le_refl _)])
      have ht : (s.data.toList.drop (lenR 0 ps)).length ≤ s.size := by rw [List.length_drop, ← size_list]; omega
      have h1 := cut1_len (s.data.toList.drop (lenR 0 ps)) 10
      have h2 := cut1_len (cut1 (s.data.toList.drop (lenR 0 ps)) 10).1 35
      have h3 := cut1_len (cut1 (cut1 (s.data.toList.drop (lenR 0 ps)) 10).1 35).1 32
      have H0 := Lib.hid (show (s.data.toList.drop (lenR 0 ps)).length < 4294967281 by omega)
      have H1 := Lib.hid (show (cut1 (s.data.toList.drop (lenR 0 ps)) 10).1.length < 4294967281 by omega)
      have H2 := Lib.hid (show (cut1 (cut1 (s.data.toList.drop (lenR 0 ps)) 10).1 35).1.length < 4294967281 by omega)
      have H3 := Lib.hid (show (cut1 (cut1 (cut1 (s.data.toList.drop (lenR 0 ps)) 10).1 35).1 32).2.1.length < 4294967281 by omega)
      have HB : Hid ((bodyR (cut1 (s.data.toList.drop (lenR 0 ps)) 10).1).1.length ≤ maxLen ∧ (bodyR (cut1 (s.data.toList.drop (lenR 0 ps)) 10).1).2.length ≤ maxLen) := by
        have h4 := bodyR_len (cut1 (s.data.toList.drop (lenR 0 ps)) 10).1
        exact ⟨by unfold maxLen; omega, by unfold maxLen; omega⟩
      clear ht h1 h2 h3
      cases hf : (cut1 (s.data.toList.drop (lenR 0 ps)) 10).2.2
      · have HF := Lib.hid hf
        go_wp2_with (go_at_call 70; refine (cut_at _ _ _ _ (by first | exact HT.out | rfl) (HE.out.below (by (repeat (first | exact Below.refl _ _ | assumption | refine Below.al ?_ _ | refine Below.sc ?_ (by first | exact Nat.le_refl _ | (simp; done) | (simp; omega)) _ | refine Below.dr ?_ | refine Below.drN ?_ _ | refine Below.step ?_ (by assumption))))) (by first | exact H0.out | exact H1.out | exact H2.out | exact H3.out)).mono ?_; rintro e w1 ⟨rfl, hb1⟩; have ⟨cw1, fw1⟩ := bcell hb1; have qw1 := hb1.size; (try simp at qw1); (try have zw1w := bsz (show w.heap.size < w1.heap.size by omega)))
        go_ret2
        have hA' : allF s.data.toList = ps := read_stop HA.out (.inr (by rw [HF.out]; rfl))
        unfold ReadPost
        rw [hA']
        exact ⟨g, c, g', c', rfl, own_below HO1.out (by (repeat (first | exact Below.refl _ _ | assumption | refine Below.al ?_ _ | refine Below.sc ?_ (by first | exact Nat.le_refl _ | (simp; done) | (simp; omega)) _ | refine Below.dr ?_ | refine Below.drN ?_ _ | refine Below.step ?_ (by assumption)))), own_below HO2.out (by (repeat (first | exact Below.refl _ _ | assumption | refine Below.al ?_ _ | refine Below.sc ?_ (by first | exact Nat.le_refl _ | (simp; done) | (simp; omega)) _ | refine Below.dr ?_ | refine Below.drN ?_ _ | refine Below.step ?_ (by assumption)))), by (repeat (first | exact Below.refl _ _ | assumption | refine Below.al ?_ _ | refine Below.sc ?_ (by first | exact Nat.le_refl _ | (simp; done) | (simp; omega)) _ | refine Below.dr ?_ | refine Below.drN ?_ _ | refine Below.step ?_ (by assumption)))⟩
      · cases hg : goodR (bodyR (cut1 (s.data.toList.drop (lenR 0 ps)) 10).1)
        · have HG := Lib.hid hg
          go_wp2_with (first | (go_at_call 70; refine (cut_at _ _ _ _ (by first | exact HT.out | rfl) (HE.out.below (by (repeat (first | exact Below.refl _ _ | assumption | refine Below.al ?_ _ | refine Below.sc ?_ (by first | exact Nat.le_refl _ | (simp; done) | (simp; omega)) _ | refine Below.dr ?_ | refine Below.drN ?_ _ | refine Below.step ?_ (by assumption))))) (by first | exact H0.out | exact H1.out | exact H2.out | exact H3.out)).mono ?_; rintro e w1 ⟨rfl, hb1⟩; have ⟨cw1, fw1⟩ := bcell hb1; have qw1 := hb1.size; (try simp at qw1); (try have zw1w := bsz (show w.heap.size < w1.heap.size by omega))) | (go_at_call 37; refine (isValid_at _ _ (bodyR (cut1 (s.data.toList.drop (lenR 0 ps)) 10).1) _ ⟨rfl, rfl⟩ HB.out.1 HB.out.2).mono ?_; rintro e w2 ⟨rfl, hb2⟩; have ⟨cw2, fw2⟩ := bcell hb2; have qw2 := hb2.size; (try simp at qw2); (try have zw2w := bsz (show w.heap.size < w2.heap.size by omega)); (try have zw2w1 := bsz (show w1.heap.size < w2.heap.size by omega))))
          go_ret2
          have hA' : allF s.data.toList = ps := read_stop HA.out (.inr (by rw [HG.out, Bool.and_false]; rfl))
          unfold ReadPost
          rw [hA']
          exact ⟨g, c, g', c', rfl, own_below HO1.out (by (repeat (first | exact Below.refl _ _ | assumption | refine Below.al ?_ _ | refine Below.sc ?_ (by first | exact Nat.le_refl _ | (simp; done) | (simp; omega)) _ | refine Below.dr ?_ | refine Below.drN ?_ _ | refine Below.step ?_ (by assumption)))), own_below HO2.out (by (repeat (first | exact Below.refl _ _ | assumption | refine Below.al ?_ _ | refine Below.sc ?_ (by first | exact Nat.le_refl _ | (simp; done) | (simp; omega)) _ | refine Below.dr ?_ | refine Below.drN ?_ _ | refine Below.step ?_ (by assumption)))), by (repeat (first | exact Below.refl _ _ | assumption | refine Below.al ?_ _ | refine Below.sc ?_ (by first | exact Nat.le_refl _ | (simp; done) | (simp; omega)) _ | refine Below.dr ?_ | refine Below.drN ?_ _ | refine Below.step ?_ (by assumption)))⟩
        · have HG := Lib.hid hg
          have hL : ¬ 9223372036854775807 < (cut1 (s.data.toList.drop (lenR 0 ps)) 10).1.length + 1 := by have := H1.out; omega
          cases he : (encR ps.length (bodyR (cut1 (s.data.toList.drop (lenR 0 ps)) 10).1) == (cut1 (s.data.toList.drop (lenR 0 ps)) 10).1 ++ [10])
          · have HEN := Lib.hid he
            go_wp2_with (first | (go_at_call 70; refine (cut_at _ _ _ _ (by first | exact HT.out | rfl) (HE.out.below (by (repeat (first | exact Below.refl _ _ | assumption | refine Below.al ?_ _ | refine Below.sc ?_ (by first | exact Nat.le_refl _ | (simp; done) | (simp; omega)) _ | refine Below.dr ?_ | refine Below.drN ?_ _ | refine Below.step ?_ (by assumption))))) (by first | exact H0.out | exact H1.out | exact H2.out | exact H3.out)).mono ?_; rintro e w1 ⟨rfl, hb1⟩; have ⟨cw1, fw1⟩ := bcell hb1; have qw1 := hb1.size; (try simp at qw1); (try have zw1w := bsz (show w.heap.size < w1.heap.size by omega))) | (go_at_call 37; refine (isValid_at _ _ (bodyR (cut1 (s.data.toList.drop (lenR 0 ps)) 10).1) _ ⟨rfl, rfl⟩ HB.out.1 HB.out.2).mono ?_; rintro e w2 ⟨rfl, hb2⟩; have ⟨cw2, fw2⟩ := bcell hb2; have qw2 := hb2.size; (try simp at qw2); (try have zw2w := bsz (show w.heap.size < w2.heap.size by omega)); (try have zw2w1 := bsz (show w1.heap.size < w2.heap.size by omega))) | (go_at_call 46; refine (encode_at ps.length _ _ (bodyR (cut1 (s.data.toList.drop (lenR 0 ps)) 10).1) _ ⟨rfl, rfl⟩ (HE.out.below (by (repeat (first | exact Below.refl _ _ | assumption | refine Below.al ?_ _ | refine Below.sc ?_ (by first | exact Nat.le_refl _ | (simp; done) | (simp; omega)) _ | refine Below.dr ?_ | refine Below.drN ?_ _ | refine Below.step ?_ (by assumption))))) hn HG.out).mono ?_; rintro e w3 ⟨rfl, hb3⟩; have ⟨cw3, fw3⟩ := bcell hb3; have qw3 := hb3.size; (try simp at qw3); (try have zw3w := bsz (show w.heap.size < w3.heap.size by omega)); (try have zw3w1 := bsz (show w1.heap.size < w3.heap.size by omega))))
            go_ret2
            have hA' : allF s.data.toList = ps := read_stop HA.out (.inr (by rw [HEN.out, Bool.and_false]))
            unfold ReadPost
            rw [hA']
            exact ⟨g, c, g', c', rfl, own_below HO1.out (by (repeat (first | exact Below.refl _ _ | assumption | refine Below.al ?_ _ | refine Below.sc ?_ (by first | exact Nat.le_refl _ | (simp; done) | (simp; omega)) _ | refine Below.dr ?_ | refine Below.drN ?_ _ | refine Below.step ?_ (by assumption)))), own_below HO2.out (by (repeat (first | exact Below.refl _ _ | assumption | refine Below.al ?_ _ | refine Below.sc ?_ (by first | exact Nat.le_refl _ | (simp; done) | (simp; omega)) _ | refine Below.dr ?_ | refine Below.drN ?_ _ | refine Below.step ?_ (by assumption)))), by (repeat (first | exact Below.refl _ _ | assumption | refine Below.al ?_ _ | refine Below.sc ?_ (by first | exact Nat.le_refl _ | (simp; done) | (simp; omega)) _ | refine Below.dr ?_ | refine Below.drN ?_ _ | refine Below.step ?_ (by assumption)))⟩
          · have HEN := Lib.hid he
            have HST := Lib.hid (read_step h60 HA.out (by rw [← size_list]; exact hle) hf hg he)
            have hl1 : (ps.length + 1) * 32 ≤ 140737488355328 := by omega
            have hl2 : (ps.length + 1) * 8 ≤ 140737488355328 := by omega
            have hl3 : ps.length + 1 ≤ maxLen := by unfold maxLen; omega
            go_wp2_with (first | (go_at_call 70; refine (cut_at _ _ _ _ (by first | exact HT.out | rfl) (HE.out.below (by (repeat (first | exact Below.refl _ _ | assumption | refine Below.al ?_ _ | refine Below.sc ?_ (by first | exact Nat.le_refl _ | (simp; done) | (simp; omega)) _ | refine Below.dr ?_ | refine Below.drN ?_ _ | refine Below.step ?_ (by assumption))))) (by first | exact H0.out | exact H1.out | exact H2.out | exact H3.out)).mono ?_; rintro e w1 ⟨rfl, hb1⟩; have ⟨cw1, fw1⟩ := bcell hb1; have qw1 := hb1.size; (try simp at qw1); (try have zw1w := bsz (show w.heap.size < w1.heap.size by omega))) | (go_at_call 37; refine (isValid_at _ _ (bodyR (cut1 (s.data.toList.drop (lenR 0 ps)) 10).1) _ ⟨rfl, rfl⟩ HB.out.1 HB.out.2).mono ?_; rintro e w2 ⟨rfl, hb2⟩; have ⟨cw2, fw2⟩ := bcell hb2; have qw2 := hb2.size; (try simp at qw2); (try have zw2w := bsz (show w.heap.size < w2.heap.size by omega)); (try have zw2w1 := bsz (show w1.heap.size < w2.heap.size by omega))) | (go_at_call 46; refine (encode_at ps.length _ _ (bodyR (cut1 (s.data.toList.drop (lenR 0 ps)) 10).1) _ ⟨rfl, rfl⟩ (HE.out.below (by (repeat (first | exact Below.refl _ _ | assumption | refine Below.al ?_ _ | refine Below.sc ?_ (by first | exact Nat.le_refl _ | (simp; done) | (simp; omega)) _ | refine Below.dr ?_ | refine Below.drN ?_ _ | refine Below.step ?_ (by assumption))))) hn HG.out).mono ?_; rintro e w3 ⟨rfl, hb3⟩; have ⟨cw3, fw3⟩ := bcell hb3; have qw3 := hb3.size; (try simp at qw3); (try have zw3w := bsz (show w.heap.size < w3.heap.size by omega)); (try have zw3w1 := bsz (show w1.heap.size < w3.heap.size by omega))) | (at_builtin; refine wpList_app1 rfl (.tmp 75) (.tmp 77) _ rfl w.heap.size 27 2 32 elemRec _ _ _ rfl _ _ rfl _ (by simp) rfl (own_below HO1.out (by (repeat (first | exact Below.refl _ _ | assumption | refine Below.al ?_ _ | refine Below.sc ?_ (by first | exact Nat.le_refl _ | (simp; done) | (simp; omega)) _ | refine Below.dr ?_ | refine Below.drN ?_ _ | refine Below.step ?_ (by assumption))))) rfl (by simp [Value.oneCell']) hl1 hl3 (show Below w.heap.size w _ from (by (repeat (first | exact Below.refl _ _ | assumption | refine Below.al ?_ _ | refine Below.sc ?_ (by first | exact Nat.le_refl _ | (simp; done) | (simp; omega)) _ | refine Below.dr ?_ | refine Below.drN ?_ _ | refine Below.step ?_ (by assumption))))).size ?_; intro v4 w4 ho4 hg4 hr4 hz4) | (at_builtin; refine wpList_app1 rfl (.tmp 79) (.tmp 81) _ rfl w.heap.size 3 1 8 elemInt _ _ _ rfl _ _ rfl _ (by simp) rfl ((own_below HO2.out (by (repeat (first | exact Below.refl _ _ | assumption | refine Below.al ?_ _ | refine Below.sc ?_ (by first | exact Nat.le_refl _ | (simp; done) | (simp; omega)) _ | refine Below.dr ?_ | refine Below.drN ?_ _ | refine Below.step ?_ (by assumption))))).kept hg4 (own_apart (own_below HO2.out (by (repeat (first | exact Below.refl _ _ | assumption | refine Below.al ?_ _ | refine Below.sc ?_ (by first | exact Nat.le_refl _ | (simp; done) | (simp; omega)) _ | refine Below.dr ?_ | refine Below.drN ?_ _ | refine Below.step ?_ (by assumption))))) (own_below HO1.out (by (repeat (first | exact Below.refl _ _ | assumption | refine Below.al ?_ _ | refine Below.sc ?_ (by first | exact Nat.le_refl _ | (simp; done) | (simp; omega)) _ | refine Below.dr ?_ | refine Below.drN ?_ _ | refine Below.step ?_ (by assumption))))) (by decide))) rfl (by simp [Value.oneCell']) hl2 hl3 (Nat.le_trans (show Below w.heap.size w _ from (by (repeat (first | exact Below.refl _ _ | assumption | refine Below.al ?_ _ | refine Below.sc ?_ (by first | exact Nat.le_refl _ | (simp; done) | (simp; omega)) _ | refine Below.dr ?_ | refine Below.drN ?_ _ | refine Below.step ?_ (by assumption))))).size (Nat.le_of_lt hz4)) ?_; intro v5 w5 ho5 hg5 hr5 hz5))
            case roundEnd =>
              have e := HST.out
              have hbr : Below wr.heap.size wr w3 := by (repeat (first | exact Below.refl _ _ | assumption | refine Below.al ?_ _ | refine Below.sc ?_ (by first | exact Nat.le_refl _ | (simp; done) | (simp; omega)) _ | refine Below.dr ?_ | refine Below.drN ?_ _ | refine Below.step ?_ (by assumption)))
              have hbw : Below w.heap.size w w3 := Below.step hb hbr
              have hl := H1.out
              clear hb1 hb2 hb3
              go_light
              have hk1 := own_below HO1.out hbr
              have hk2 := own_below HO2.out hbr
              have hk2' := hk2.kept hg4 (own_apart hk2 hk1 (by decide))
              have hk1' := ho4.kept hg5 (own_apart ho4 hk2' (by decide))
              obtain ⟨g4, c4, rfl⟩ := own_form ho4 (by omega)
              obtain ⟨g5, c5, rfl⟩ := own_form ho5 (by omega)
              have hn1 : (ps ++ [bodyR (cut1 (s.data.toList.drop (lenR 0 ps)) 10).1]).length = ps.length + 1 := by simp
              have hat : wrap64 ((lenR 0 ps : Nat) + (((cut1 (s.data.toList.drop (lenR 0 ps)) 10).1.length : Nat) + 1 : Int)) = ((lenR 0 (ps ++ [bodyR (cut1 (s.data.toList.drop (lenR 0 ps)) 10).1]) : Nat) : Int) := by
                exact wrap_sum e.2.2 (by omega)
              have hle' := e.2.1
              rw [← size_list] at hle'
              refine ⟨⟨ps ++ [bodyR (cut1 (s.data.toList.drop (lenR 0 ps)) 10).1], g4, c4, g5, c5, ?_, ?_, hle', ?_, ?_, ?_, ?_, ?_, ?_⟩, ?_⟩
              · rw [hn1]; exact e.1
              · rw [hn1]; omega
              · rw [hn1]
              · rw [hn1]
              · rw [hat]
              · rw [hn1, recV_snoc]; exact hk1'
              · rw [hat] at ho5
                rw [hn1, endsF_snoc, natV_snoc, Nat.zero_add, Nat.zero_add]
                rw [lenR_snoc, Nat.zero_add] at ho5
                exact ho5
              · exact (hbw.grown hg4 hbw.size (own_base hk1)).grown hg5 (Nat.le_trans hbw.size (Nat.le_of_lt hz4)) (own_base hk2')
              · rw [hat]; exact meas_down e.2.2 hle'
    · go_wp2
      go_ret2
      have hA' : allF s.data.toList = ps := read_stop HA.out (.inl (by omega))
      unfold ReadPost
      rw [hA']
      exact ⟨g, c, g', c', rfl, own_below HO1.out (by (repeat (first | exact Below.refl _ _ | assumption | refine Below.al ?_ _ | refine Below.sc ?_ (by first | exact Nat.le_refl _ | (simp; done) | (simp; omega)) _ | refine Below.dr ?_ | refine Below.drN ?_ _ | refine Below.step ?_ (by assumption)))), own_below HO2.out (by (repeat (first | exact Below.refl _ _ | assumption | refine Below.al ?_ _ | refine Below.sc ?_ (by first | exact Nat.le_refl _ | (simp; done) | (simp; omega)) _ | refine Below.dr ?_ | refine Below.drN ?_ _ | refine Below.step ?_ (by assumption)))), by (repeat (first | exact Below.refl _ _ | assumption | refine Below.al ?_ _ | refine Below.sc ?_ (by first | exact Nat.le_refl _ | (simp; done) | (simp; omega)) _ | refine Below.dr ?_ | refine Below.drN ?_ _ | refine Below.step ?_ (by assumption)))⟩
end Go.Proofs.YtofamefmodmekaaDoor
