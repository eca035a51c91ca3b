/- How a law's row is closed out of its walk: the call answers true and turns nothing that was there. No conditions.
The English of clauses: the program's. Conditions: sizes.
A struct in the making whose rows are its own. No conditions; no program is walked.
The reference's copy of a term, in memory of its own. Conditions: sizes.
The English of clauses: the reference's. Conditions: sizes.
The laws' own functions on clauses: how large one is, its copy, the comparison. Conditions: sizes.
ClauseToEnglish: its law's walk. Conditions: sizes. -/
import Derived.OpenShut
import Derived.JoinedCond
import Derived.Deep.DeepHandedRow
import Derived.Lib.SmallJoins
import Derived.Stop.LaidErr
import Derived.Test.YtdklemmincejpaaCtePart7
namespace Go.Proofs.Ytdklemmincejpaa
open Go.RowKit
set_option maxHeartbeats 800000 in
theorem clauseEnglish_any {B : Nat → Prop} (m : Nat) (c : List Lit3) (v : Value) (w : World) (h : ClsAt B m w c v) (hcap : ∀ p d, v = .slice p c.length d → c.length ≤ d) (h8 : c.length ≤ 8) (ha : ∀ l ∈ c, l.a.atom = true) (hw : Cls.wts c ≤ 1048576) :
    Calls Try.prog 14 #[.agg #[v]] w fun e w' => e = .returned (.string ⟨(Cls.eng c).toArray⟩) ∧ Below w.heap.size w w' := by
  obtain ⟨p, d, rfl, -⟩ := (show ListAt B w 3 (LitAt B m w) v c from h).form
  have H := Lib.hid h
  have HC := Lib.hid hcap
  have HA := Lib.hid ha
  clear h hcap ha
  by_cases h0 : c.length = 0
  · have HE := Lib.hid (show Cls.eng c = sContr from if_pos h0)
    obtain rfl : c = [] := List.eq_nil_of_length_eq_zero h0
    go_enter Try.func14, Try.ntmps14
    go_wp2
    go_ret
    exact ⟨ret_str (by rw [HE.out]; rfl), by (repeat (first | with_reducible exact Below.refl _ _ | with_reducible assumption | with_reducible refine Below.al ?_ _ | with_reducible refine Below.sc ?_ (by first | exact Nat.le_refl _ | (simp; done) | (simp; omega)) _ | assumption | exact Below.refl _ _ | refine Below.dr ?_ | refine Below.drN ?_ _ | refine Below.step ?_ (by assumption)))⟩
  · have HE := Lib.hid (show Cls.eng c = (disj c).eng from if_neg h0)
    have HW := Lib.hid (fun l hl => Nat.le_trans (Cls.wts_le c l hl) hw)
    have HD := Lib.hid (And.intro (disj_form c (by omega) HA.out) (disj_len (by omega) h8 HA.out hw))
    have h0i : ((c.length : Int) == 0) = false := by rw [beq_eq_false_iff_ne]; omega
    go_enter Try.func14, Try.ntmps14
    go_wp2_with fail
    refine (disjunction_any m c _ _ (ClsAt.below (by (repeat (first | with_reducible exact Below.refl _ _ | with_reducible assumption | with_reducible refine Below.al ?_ _ | with_reducible refine Below.sc ?_ (by first | exact Nat.le_refl _ | (simp; done) | (simp; omega)) _ | assumption | exact Below.refl _ _ | refine Below.dr ?_ | refine Below.drN ?_ _ | refine Below.step ?_ (by assumption)))) H.out) h8 HC.out HW.out).mono ?_
    rintro e w1 ⟨u0, u1, u2, u3, u4, rfl, hu, hb1⟩
    have ⟨cw1, fw1⟩ := bcell hb1
    have qw1 := hb1.size
    (try simp at qw1)
    (try have zw1w := bsz (show w.heap.size < w1.heap.size by omega))
    have HU := Lib.hid hu
    clear hu
    go_wp2_with fail
    refine (english_any (m + 2 + c.length) (disj c) _ _ _ _ _ _ HU.out HD.out.1 (by have := HD.out.2; omega)).mono ?_
    rintro e w2 ⟨rfl, hb2⟩
    have ⟨cw2, fw2⟩ := bcell hb2
    have qw2 := hb2.size
    (try simp at qw2)
    (try have zw2w := bsz (show w.heap.size < w2.heap.size by omega))
    (try have zw2w1 := bsz (show w1.heap.size < w2.heap.size by omega))
    go_wp2
    go_ret
    exact ⟨ret_str (by rw [HE.out]), by (repeat (first | with_reducible exact Below.refl _ _ | with_reducible assumption | with_reducible refine Below.al ?_ _ | with_reducible refine Below.sc ?_ (by first | exact Nat.le_refl _ | (simp; done) | (simp; omega)) _ | assumption | exact Below.refl _ _ | refine Below.dr ?_ | refine Below.drN ?_ _ | refine Below.step ?_ (by assumption)))⟩
set_option maxHeartbeats 800000 in
theorem implCTE_any {B : Nat → Prop} (m : Nat) (c : List Lit3) (v : Value) (w : World) (h : ClsAt B m w c v) (hcap : ∀ p d, v = .slice p c.length d → c.length ≤ d) (hw : Cls.wts c ≤ 1048576) :
    Calls Try.prog 7 #[.agg #[v]] w fun e w' => e = .returned (.tuple #[.string ⟨(Cls.engG c).toArray⟩, .bool (Cls.good c)]) ∧ Below w.heap.size w w' := by
  obtain ⟨p, d, rfl, -⟩ := (show ListAt B w 3 (LitAt B m w) v c from h).form
  have H := Lib.hid h
  have HC := Lib.hid hcap
  have HZ := Lib.hid (show ∀ l ∈ c, l.a.sz ≤ 100000000 from fun l hl => by have h1 := Cls.wts_le c l hl; have h2 := l.a.sz_wt; omega)
  clear h hcap
  cases hg : Cls.good c
  · have HG := Lib.hid hg
    go_enter Try.func7, Try.ntmps7
    go_wp2_with fail
    refine (isValidClause_any m c _ _ (ClsAt.below (by (repeat (first | with_reducible exact Below.refl _ _ | with_reducible assumption | with_reducible refine Below.al ?_ _ | with_reducible refine Below.sc ?_ (by first | exact Nat.le_refl _ | (simp; done) | (simp; omega)) _ | assumption | exact Below.refl _ _ | refine Below.dr ?_ | refine Below.drN ?_ _ | refine Below.step ?_ (by assumption)))) H.out) HZ.out).mono ?_
    rintro e w1 ⟨rfl, hb1⟩
    have ⟨cw1, fw1⟩ := bcell hb1
    have qw1 := hb1.size
    (try simp at qw1)
    (try have zw1w := bsz (show w.heap.size < w1.heap.size by omega))
    rw [HG.out]
    go_wp2
    go_ret2
    exact ⟨by rw [Cls.engG, HG.out]; rfl, by (repeat (first | with_reducible exact Below.refl _ _ | with_reducible assumption | with_reducible refine Below.al ?_ _ | with_reducible refine Below.sc ?_ (by first | exact Nat.le_refl _ | (simp; done) | (simp; omega)) _ | assumption | exact Below.refl _ _ | refine Below.dr ?_ | refine Below.drN ?_ _ | refine Below.step ?_ (by assumption)))⟩
  · have HG := Lib.hid hg
    have HA := Lib.hid (good_atoms hg)
    go_enter Try.func7, Try.ntmps7
    go_wp2_with fail
    refine (isValidClause_any m c _ _ (ClsAt.below (by (repeat (first | with_reducible exact Below.refl _ _ | with_reducible assumption | with_reducible refine Below.al ?_ _ | with_reducible refine Below.sc ?_ (by first | exact Nat.le_refl _ | (simp; done) | (simp; omega)) _ | assumption | exact Below.refl _ _ | refine Below.dr ?_ | refine Below.drN ?_ _ | refine Below.step ?_ (by assumption)))) H.out) HZ.out).mono ?_
    rintro e w1 ⟨rfl, hb1⟩
    have ⟨cw1, fw1⟩ := bcell hb1
    have qw1 := hb1.size
    (try simp at qw1)
    (try have zw1w := bsz (show w.heap.size < w1.heap.size by omega))
    rw [HG.out]
    go_wp2_with fail
    refine (clauseEnglish_any m c _ _ (ClsAt.below (by (repeat (first | with_reducible exact Below.refl _ _ | with_reducible assumption | with_reducible refine Below.al ?_ _ | with_reducible refine Below.sc ?_ (by first | exact Nat.le_refl _ | (simp; done) | (simp; omega)) _ | assumption | exact Below.refl _ _ | refine Below.dr ?_ | refine Below.drN ?_ _ | refine Below.step ?_ (by assumption)))) H.out) HC.out HA.out.1 HA.out.2 hw).mono ?_
    rintro e w2 ⟨rfl, hb2⟩
    have ⟨cw2, fw2⟩ := bcell hb2
    have qw2 := hb2.size
    (try simp at qw2)
    (try have zw2w := bsz (show w.heap.size < w2.heap.size by omega))
    (try have zw2w1 := bsz (show w1.heap.size < w2.heap.size by omega))
    go_wp2
    go_ret2
    exact ⟨by rw [Cls.engG, HG.out]; rfl, by (repeat (first | with_reducible exact Below.refl _ _ | with_reducible assumption | with_reducible refine Below.al ?_ _ | with_reducible refine Below.sc ?_ (by first | exact Nat.le_refl _ | (simp; done) | (simp; omega)) _ | assumption | exact Below.refl _ _ | refine Below.dr ?_ | refine Below.drN ?_ _ | refine Below.step ?_ (by assumption)))⟩
end Go.Proofs.Ytdklemmincejpaa
namespace Go.Proofs.Ytdklemmincejpaa
open Go.RowKit
theorem own_unique {w : World} {base : Nat} {e : TypeId} {size : Nat} {v : Value} {n : Nat} {xs ys : List Value} (h : w.ownsRow base e size v n xs) (h' : w.ownsRow base e size v n ys) : xs = ys := by
  obtain ⟨l1, h1⟩ := h
  obtain ⟨l2, h2⟩ := h'
  rcases h1 with ⟨rfl, h0⟩ | ⟨g, cap, cur, rfl, hb, hh, h3, h4, h5, h6⟩
  · subst h0
    rw [Nat.zero_mul] at l1 l2
    rw [List.eq_nil_of_length_eq_zero l1, List.eq_nil_of_length_eq_zero l2]
  · rcases h2 with ⟨hv, _⟩ | ⟨g', cap', cur', hv, _, hh', _, _, _, h6'⟩
    · cases hv
    · simp only [Value.slice.injEq, Option.some.injEq, Addr.mk.injEq] at hv
      obtain ⟨⟨rfl, -⟩, -, rfl⟩ := hv
      rw [hh] at hh'
      simp only [Option.some.injEq, Obj.cells.injEq] at hh'
      rw [← h6, ← h6', hh'.1]
/-- The middle of a parsing: block rb waits for the result, block bt is the struct in the making (a name, the arguments us so far). -/
structure LSt (T : TypeId) (rb bt : Nat) (n : ByteArray) (w : World) (f : Nat) (v : Value) (us : List Tm) (W : World) : Prop where
  res : W.heap[rb]? = some (.cells #[.string ⟨#[]⟩, .slice none 0 0] T (0, 0))
  cell : W.heap[bt]? = some (.cells #[.string n, v] T (0, 0))
  row : OwnRow (fun b => bt < b ∧ b < W.heap.size) W T 2 (fun S x c => TmOwn T f S W x c) v us
  bel : Below w.heap.size w W
  lt : w.heap.size ≤ rb ∧ rb < bt ∧ bt < W.heap.size
theorem LSt.later {T : TypeId} {rb bt : Nat} {n : ByteArray} {w W W' : World} {f : Nat} {v : Value} {us : List Tm} (h : LSt T rb bt n w f v us W) (hb : Below W.heap.size W W') : LSt T rb bt n w f v us W' := by
  have hz := hb.size
  obtain ⟨l1, l2, l3⟩ := h.lt
  exact ⟨(hb.block _ (by omega)).trans h.res, (hb.block _ l3).trans h.cell, h.row.mono (SameOn.below hb) (fun b h => ⟨h.1, by omega⟩) (fun S x c _ _ hx => TmOwn.below hb hx), ⟨hb.os.trans h.bel.os, hb.tape.trans h.bel.tape, hb.output.trans h.bel.output, Nat.le_trans h.bel.size hb.size, fun b hlt => (hb.block b (Nat.lt_of_lt_of_le hlt h.bel.size)).trans (h.bel.block b hlt)⟩, l1, l2, by omega⟩
theorem LSt.app {T : TypeId} {rb bt : Nat} {n : ByteArray} {w W W2 w3 : World} {f : Nat} {v v' v0 v1 : Value} {us : List Tm} {a : Tm} (h : LSt T rb bt n w f v us W) (hb : Below W.heap.size W W2) (hO : TmOwn T f (fun b => W.heap.size ≤ b ∧ b < W2.heap.size) W2 a [v0, v1])
    {vals : List Value} (hv : W2.ownsRow 0 T 2 v us.length vals) (happ : w3.ownsRow 0 T 2 v' (us.length + 1) (vals ++ [v0, v1])) (hg : W2.grownBy w3 v.ownBlock) (hnr : NewRow v v' W2.heap.size) (hlen : us.length + 1 ≤ 1048576) :
    LSt T rb bt n w f v' (us ++ [a]) (w3.setCell ⟨bt, 1, none⟩ v') := by
  have H2 := h.later hb
  obtain ⟨l1, l2, l3⟩ := h.lt
  obtain ⟨-, -, l4⟩ := H2.lt
  have hz := hb.size
  have hz3 := hg.size
  obtain ⟨hm, vals0, Ss, r1, r2, r3, r4⟩ := h.row
  have hvb : ∀ b, v.ownBlock = some b → bt < b ∧ b < W.heap.size := fun b hb => r2 b hb
  have nob : ∀ b, b ≤ bt → v.ownBlock ≠ some b := fun b hb e => by have := hvb b e; omega
  have hnew : ∀ b, v'.ownBlock = some b → bt < b ∧ b < w3.heap.size := fun b hb => ⟨by
    rcases hnr with e | ⟨b', e, hge⟩
    · rw [e] at hb; exact (hvb b hb).1
    · rw [e] at hb; injection hb with hb; omega, own_lt' happ hb⟩
  have hrow := OwnRow.snoc (S' := fun b => bt < b ∧ b < w3.heap.size) (R' := fun S x c => TmOwn T f S w3 x c)
    (h.row.mono (S' := fun b => bt < b ∧ b < W.heap.size) (w' := W2) (R' := fun S x c => TmOwn T f S W2 x c) (SameOn.below hb) (fun _ h => h) (fun S x c _ _ hx => TmOwn.below hb hx)) hO rfl
    (fun vs hvs => by rw [own_unique hvs hv]; exact happ) hg hnr (by unfold maxLen; omega) (fun b hb hS => by omega) (fun b hb => by omega) (fun b hb => hb.2) (fun b hb => by omega) (fun b hb => by omega) hnew
    (fun S x c hS hx => TmOwn.mono f f x c (Nat.le_refl _) (fun b hb hlt => hg.block b hlt (fun e => (hS b hb).2 e.symm)) (fun _ h => h) hx)
  have hbt3 : w3.heap[bt]? = some (.cells #[.string n, v] T (0, 0)) := (hg.block bt l4 (fun e => nob bt (Nat.le_refl _) e.symm)).trans H2.cell
  refine ⟨?_, ?_, ?_, ?_, l1, l2, by simp; omega⟩
  · exact (heap_setCell_other w3 ⟨bt, 1, none⟩ rb v' (by simp; omega)).trans ((hg.block rb (by omega) (fun e => nob rb (by omega) e.symm)).trans H2.res)
  · have := heap_setCell_same w3 bt 1 _ T v' hbt3
    simpa using this
  · exact hrow.mono (fun b hb hlt => heap_setCell_other w3 ⟨bt, 1, none⟩ b v' (by simp; omega)) (fun b hb => by simpa using hb)
      (fun S x c _ hS hx => TmOwn.mono f f x c (Nat.le_refl _) (fun b hb hlt => heap_setCell_other w3 ⟨bt, 1, none⟩ b v' (by have := hS b hb; simp; omega)) (fun _ h => h) hx)
  · have hb2 := H2.bel
    exact ⟨hg.os.trans hb2.os, hg.tape.trans hb2.tape, hg.output.trans hb2.output, by have := hb2.size; simp; omega, fun b hlt => (heap_setCell_other w3 ⟨bt, 1, none⟩ b v' (by simp; omega)).trans ((hg.block b (by have := hb2.size; omega) (fun e => nob b (by omega) e.symm)).trans (hb2.block b hlt))⟩
/-- What the parsing of a term answers. -/
def GotTm (T : TypeId) (f : Nat) (r : Option (Tm × Nat)) (w : World) (x : Value) (w' : World) : Prop :=
  Below w.heap.size w w' ∧ ∃ (s : ByteArray) (p : Option Addr) (k c : Nat) (z : Int), x = .tuple #[.agg #[.string s, .slice p k c], .int .i64 z] ∧ match r with
    | none => z = -1
    | some (t, j) => z = (j : Nat) ∧ TmOwn T f (fun b => w.heap.size ≤ b ∧ b < w'.heap.size) w' t [.string s, .slice p k c]
/-- The struct is handed over. -/
theorem LSt.done {T : TypeId} {rb bt : Nat} {n : ByteArray} {w W : World} {f : Nat} {p : Option Addr} {k c : Nat} {us : List Tm} (h : LSt T rb bt n w f (.slice p k c) us W) (hn : n.size ≤ maxLen) (a b : Value) (j : Nat) :
    GotTm T (f + 1) (some (.mk n us, j)) w (.tuple #[.agg #[.string n, .slice p k c], .int .i64 (j : Nat)]) ((W.setCell ⟨rb, 0, none⟩ a).setCell ⟨rb, 1, none⟩ b) := by
  obtain ⟨l1, l2, l3⟩ := h.lt
  have hk : ∀ c, c ≠ rb → ((W.setCell ⟨rb, 0, none⟩ a).setCell ⟨rb, 1, none⟩ b).heap[c]? = W.heap[c]? := fun c hc => (heap_setCell_other _ ⟨rb, 1, none⟩ c b (fun e => hc e)).trans (heap_setCell_other W ⟨rb, 0, none⟩ c a (fun e => hc e))
  have hb := h.bel
  refine ⟨⟨hb.os, hb.tape, hb.output, by simpa using hb.size, fun c hc => (hk c (by omega)).trans (hb.block c hc)⟩, _, _, _, _, _, rfl, rfl, _, rfl, hn, ?_⟩
  exact h.row.mono (fun c hc _ => hk c (by omega)) (fun c hc => by simp; omega)
      (fun S x c _ hS hx => TmOwn.mono f f x c (Nat.le_refl _) (fun d hd _ => hk d (by have := (hS d hd).1; omega)) (fun _ h => h) hx)
theorem LSt.none {T : TypeId} {rb bt : Nat} {n : ByteArray} {w W : World} {f f' : Nat} {p : Option Addr} {k c : Nat} {us : List Tm} (h : LSt T rb bt n w f (.slice p k c) us W) (a b : Value) :
    GotTm T f' none w (.tuple #[.agg #[.string n, .slice p k c], .int .i64 (-1)]) ((W.setCell ⟨rb, 0, none⟩ a).setCell ⟨rb, 1, none⟩ b) := by
  obtain ⟨l1, l2, l3⟩ := h.lt
  have hb := h.bel
  exact ⟨⟨hb.os, hb.tape, hb.output, by simpa using hb.size, fun c hc => ((heap_setCell_other _ ⟨rb, 1, Option.none⟩ c b (by simp; omega)).trans (heap_setCell_other W ⟨rb, 0, Option.none⟩ c a (by simp; omega))).trans (hb.block c hc)⟩, _, _, _, _, _, rfl, rfl⟩
theorem LSt.init {T : TypeId} {n : ByteArray} {w wr : World} {f : Nat} (hbr : Below (w.alloc (.cells #[.string ⟨#[]⟩, .slice Option.none 0 0] T)).heap.size (w.alloc (.cells #[.string ⟨#[]⟩, .slice Option.none 0 0] T)) wr) :
    LSt T w.heap.size wr.heap.size n w f (.slice Option.none 0 0) [] (wr.alloc (.cells #[.string n, .slice Option.none 0 0] T)) := by
  have hz := hbr.size
  simp at hz
  refine ⟨(heap_alloc_old wr _ (by omega)).trans ((hbr.block _ (by simp)).trans (heap_alloc_new w _)), heap_alloc_new wr _, OwnRow.nil _ _ _ _ _, ⟨hbr.os, hbr.tape, hbr.output, by simp; omega, fun b hlt => (heap_alloc_old wr _ (by omega)).trans ((hbr.block b (by simp; omega)).trans (heap_alloc_old w _ hlt))⟩, Nat.le_refl _, by omega, by simp⟩
theorem LSt.three {T : TypeId} {rb bt : Nat} {n : ByteArray} {w W w3 : World} {f : Nat} {v v' : Value} {us : List Tm} {ys : List Value} (h : LSt T rb bt n w f v us W) (happ : w3.ownsRow 0 T 2 v' (us.length + 1) ys) (hg : W.grownBy w3 v.ownBlock) :
    (∃ q c, v' = .slice (some ⟨q, 0, Option.none⟩) (us.length + 1) c) ∧ w3.heap[bt]? = some (.cells #[.string n, v] T (0, 0)) ∧ w3.heap[rb]? = some (.cells #[.string ⟨#[]⟩, .slice Option.none 0 0] T (0, 0)) := by
  obtain ⟨l1, l2, l3⟩ := h.lt
  obtain ⟨hm, vals, Ss, r1, r2, r3, r4⟩ := h.row
  exact ⟨own_form happ (by omega), (hg.block bt l3 (fun e => by have := (r2 bt e.symm).1; omega)).trans h.cell, (hg.block rb (by omega) (fun e => by have := (r2 rb e.symm).1; omega)).trans h.res⟩
theorem byte_40 (c : UInt8) : ((c.toNat : Int) == 40) = (c == 40) := by
  rw [Bool.eq_iff_iff, beq_iff_eq, beq_iff_eq]
  exact ⟨fun e => UInt8.toNat_inj.1 (show c.toNat = 40 by omega), fun e => by subst e; rfl⟩
theorem byte_41 (c : UInt8) : ((c.toNat : Int) == 41) = (c == 41) := by
  rw [Bool.eq_iff_iff, beq_iff_eq, beq_iff_eq]
  exact ⟨fun e => UInt8.toNat_inj.1 (show c.toNat = 41 by omega), fun e => by subst e; rfl⟩
theorem byte_44 (c : UInt8) : ((c.toNat : Int) == 44) = (c == 44) := by
  rw [Bool.eq_iff_iff, beq_iff_eq, beq_iff_eq]
  exact ⟨fun e => UInt8.toNat_inj.1 (show c.toNat = 44 by omega), fun e => by subst e; rfl⟩
theorem extract_le (s : ByteArray) (k j : Nat) (h : s.size ≤ 1000000) : (s.extract k j).size ≤ maxLen := by
  rw [size_list, extract_list, List.length_drop, List.length_take, ← size_list]; unfold maxLen; omega
theorem list_at (s : ByteArray) (j : Nat) (h : j < s.size) : s.data.toList[j]? = some s[j] := by
  rw [List.getElem?_eq_getElem (by rw [← size_list]; exact h)]; rfl
theorem AppSt.keep {T : TypeId} {g bt n i j k : Nat} {CP : Value → World → Prop} {v : Value} {W : World} (hG : ∀ x w', CP x w' → W.grownBy w' (some g)) {c : Nat} (hc : c < W.heap.size) (hne : c ≠ g) (hv : v.ownBlock ≠ some c) (hbt : c ≠ bt) {m : Nat} {u : Nat → Value} {w : World} (h : AppSt T g bt CP v n W i j k m u w) : w.heap[c]? = W.heap[c]? := by
  have h1 : ∀ x w1, CP x w1 → w1.heap[c]? = W.heap[c]? ∧ c < w1.heap.size := fun x w1 h => ⟨(hG _ _ h).block c hc (by simpa using hne), Nat.lt_of_lt_of_le hc (hG _ _ h).size⟩
  match m, h with
  | 0, h => obtain rfl : w = W.drew := h; rfl
  | 1, h => exact (h1 _ _ h).1
  | 2, h =>
    obtain ⟨w1, v0, v1, h2, _, rfl⟩ := h
    exact (heap_alloc_old w1 _ (h1 _ _ h2).2).trans (h1 _ _ h2).1
  | 3, h =>
    obtain ⟨w1, v0, v1, h2, -, hg, -⟩ := h
    exact (hg.block c (h1 _ _ h2).2 (fun e => hv e.symm)).trans (h1 _ _ h2).1
  | 4, h =>
    obtain ⟨w1, w3, v0, v1, h2, -, hg, -, -, rfl⟩ := h
    exact (heap_setCell_other w3 ⟨bt, 1, Option.none⟩ c _ (fun e => hbt e)).trans ((hg.block c (h1 _ _ h2).2 (fun e => hv e.symm)).trans (h1 _ _ h2).1)
theorem LSt.out {T : TypeId} {rb bt : Nat} {n : ByteArray} {w W : World} {f : Nat} {p : Option Addr} {k c : Nat} {us : List Tm} (h : LSt T rb bt n w f (.slice p k c) us W) (hn : n.size ≤ maxLen) (a b : Value) :
    Below w.heap.size w ((W.setCell ⟨rb, 0, Option.none⟩ a).setCell ⟨rb, 1, Option.none⟩ b) ∧ TmOwn T (f + 1) (fun q => w.heap.size ≤ q ∧ q < ((W.setCell ⟨rb, 0, Option.none⟩ a).setCell ⟨rb, 1, Option.none⟩ b).heap.size) ((W.setCell ⟨rb, 0, Option.none⟩ a).setCell ⟨rb, 1, Option.none⟩ b) (.mk n us) [.string n, .slice p k c] := by
  obtain ⟨hb, s, p', k', c', z, he, hz, hO⟩ := LSt.done h hn a b 0
  simp only [Value.tuple.injEq, Array.mk.injEq, List.cons.injEq, Value.agg.injEq, Value.string.injEq, Value.slice.injEq, and_true] at he
  obtain ⟨⟨rfl, rfl, rfl, rfl⟩, -⟩ := he
  exact ⟨hb, hO⟩
end Go.Proofs.Ytdklemmincejpaa
namespace Go.Proofs.Ytdklemmincejpaa
open Go.RowKit
theorem baseV10 (x0 x1 x2 x3 x4 x5 x6 x7 x8 x9 : Option Value) (v : Value) (l : List (Option Value)) : baseV (x0 :: x1 :: x2 :: x3 :: x4 :: x5 :: x6 :: x7 :: x8 :: x9 :: some v :: l) 10 = v := rfl
def OwnC (B : Nat → Prop) (m : Nat) : Prop := ∀ (t : Tm) (v0 v1 : Value) (w : World), TmAt B m w t [v0, v1] → t.wt ≤ 1048576 →
  Calls Try.prog 34 #[.agg #[v0, v1]] w fun e w' => ∃ u0 u1, e = .returned (.agg #[u0, u1]) ∧ TmOwn 48 m (fun b => w.heap.size ≤ b ∧ b < w'.heap.size) w' t [u0, u1] ∧ Below w.heap.size w w'
def OwnRel (n : ByteArray) (us : List Tm) (m rb bt : Nat) (w : World) (i : Value) (wr : World) : Prop :=
  ∃ (k : Nat) (v : Value), k ≤ us.length ∧ i = .int .i64 (k : Nat) ∧ LSt 48 rb bt n w m v (us.take k) wr
set_option maxRecDepth 100000 in
set_option maxHeartbeats 3200000 in
theorem l2Own_any {B : Nat → Prop} : ∀ m : Nat, OwnC B m := by
  intro m
  induction m with
  | zero => intro t v0 v1 w h; exact h.elim
  | succ m ih =>
    rintro ⟨n, us⟩ v0 v1 w ⟨va, he, hn, hl⟩ hw
    simp only [List.cons.injEq, and_true] at he
    obtain ⟨rfl, rfl⟩ := he
    obtain ⟨p, c, rfl, hlen⟩ := hl.form
    rw [Tm.wt] at hw
    unfold maxLen at hlen
    have HL := Lib.hid hl
    have HN := Lib.hid hn
    have IH := Lib.hid ih
    clear ih hl hn
    go_enter Try.func34, Try.ntmps34
    go_wp2
    obtain ⟨wp, hwp⟩ : ∃ wp : World, wp = w.alloc (.cells #[.string n, .slice p us.length c] 48) := ⟨_, rfl⟩
    have hsz : wp.heap.size = w.heap.size + 1 := by rw [hwp]; simp
    have hbp : Below w.heap.size w wp := by rw [hwp]; (repeat (first | with_reducible exact Below.refl _ _ | with_reducible assumption | with_reducible refine Below.al ?_ _ | with_reducible refine Below.sc ?_ (by first | exact Nat.le_refl _ | (simp; done) | (simp; omega)) _ | assumption | exact Below.refl _ _ | refine Below.dr ?_ | refine Below.drN ?_ _ | refine Below.step ?_ (by assumption)))
    have hpb : wp.heap[w.heap.size]? = some (.cells #[.string n, .slice p us.length c] 48 (0, 0)) := by rw [hwp]; exact heap_alloc_new w _
    rw [← hwp]
    clear hwp
    have HL0 := Lib.hid (LSt.init (T := 48) (n := n) (w := wp) (f := m) (Below.refl _ _))
    simp only [World.size_alloc, hsz] at HL0
    have HLP := Lib.hid (HL.out.mono (SameOn.below hbp) (fun _ h => h) (fun x cs _ hx => TmAt.below hbp hx))
    go_loopw [4] (OwnRel n us m (w.heap.size + 1) (w.heap.size + 1 + 1) wp) (fun i _ => us.length - (intOf i).toNat)
    case atStart => exact ⟨0, _, Nat.zero_le _, rfl, HL0.out⟩
    case round =>
      obtain ⟨k, v, hk, rfl, hls⟩ := hrel
      have HLS := Lib.hid hls
      clear hls HL0
      have hlt0 := HLS.out.lt
      have hbw := HLS.out.bel
      have hzr := hbw.size
      have hpr : wr.heap[w.heap.size]? = _ := (hbw.block _ (by omega)).trans hpb
      obtain ⟨a0, a1, af⟩ := cells2_cell hpr
      have za := bsz (show w.heap.size < wr.heap.size by omega)
      by_cases hlt : k < us.length
      · have hlti : (k : Int) < us.length := by omega
        obtain ⟨b, o, hpe, hB, x0, x1, hx0, hx1, hx⟩ := HLP.out.at2 hlt
        subst hpe
        have hwa := Tm.wts_le us hlt
        have hbl : b < wp.heap.size := World.block_lt_of_cell? _ _ hx0
        obtain ⟨a, ha⟩ : ∃ a, us[k] = a := ⟨_, rfl⟩
        have HTK := Lib.hid (show us.take (k + 1) = us.take k ++ [a] by rw [List.take_succ_eq_append_getElem hlt, ha])
        rw [ha] at hx hwa
        have HX := Lib.hid (TmAt.below hbw hx)
        clear hx ha
        have hlk : (us.take k).length = k := by rw [List.length_take]; omega
        obtain ⟨pa, ca, rfl, rfl, -⟩ := HX.out.form
        have hy0 : wr.cell? ⟨b, o + k * 2, none⟩ = some (.string a.n) := (World.cell?_of_block (hbw.block _ hbl)).trans hx0
        have hy1 : wr.cell? ⟨b, o + k * 2 + 1, none⟩ = some (.slice pa a.us.length ca) := (World.cell?_of_block (hbw.block _ hbl)).trans hx1
        obtain ⟨hm, vals, Ss, hv1, hv2, -⟩ := HLS.out.row
        have hnb : ∀ b', b' ≤ w.heap.size + 1 + 1 → v.ownBlock ≠ some b' := fun b' hb' e => by have := (hv2 b' e).1; omega
        rw [hlk] at hv1
        obtain ⟨b0, b1, bf⟩ := cells2_cell HLS.out.cell
        have HB1 := Lib.hid b1
        have HY := Lib.hid (And.intro a1 (And.intro hy0 hy1))
        have HNB := Lib.hid hnb
        have HV := Lib.hid hv1
        clear hv1 hv2 hnb hx0 hx1 hy0 hy1 b0 b1 bf
        go_wp2
        clear a0 a1 af
        obtain ⟨CP, hCP0⟩ : ∃ CP : Value → World → Prop, CP = fun x w' => ∃ u0 u1, x = .agg #[u0, u1] ∧ TmOwn 48 m (fun b => wr.heap.size ≤ b ∧ b < w'.heap.size) w' a [u0, u1] ∧ Below wr.heap.size wr w' := ⟨_, rfl⟩
        have HCP := Lib.hid hCP0
        have HGR := Lib.hid (show ∀ x w', CP x w' → wr.grownBy w' (some (w.heap.size + 1)) from by
          rw [hCP0]; rintro x w' ⟨_, _, _, _, hG⟩; exact ⟨hG.os, hG.tape, hG.output, hG.size, fun k hk _ => hG.block k hk⟩)
        have HAGG := Lib.hid (show ∀ x w', CP x w' → ∃ v0 v1, x = .agg #[v0, v1] ∧ v0.oneCell' = true ∧ v1.oneCell' = true from by
          rw [hCP0]; rintro x w' ⟨v0, v1, hx, hO, _⟩
          obtain ⟨pp, cc, rfl, rfl, -⟩ := hO.form
          exact ⟨_, _, hx, rfl, rfl⟩)
        clear hCP0
        have HKEEP := Lib.hid (show ∀ (b' j : Nat) (u : Nat → Value) (w' : World), AppSt 48 (w.heap.size + 1) (w.heap.size + 1 + 1) CP v k wr 7 8 9 j u w' → b' < wp.heap.size → w'.heap[b']? = wr.heap[b']? from
          fun b' j u w' h hlt => AppSt.keep HGR.out (by omega) (by omega) (HNB.out b' (by omega)) (by omega) h)
        refine wp_region_stages [some (.pointer (some ⟨w.heap.size + 1 + 1, 1, none⟩)), some v, some (.pointer (some ⟨w.heap.size, 1, none⟩)), some (.slice (some ⟨b, o, none⟩) us.length c), some (.int .i64 (k : Nat)), some (.pointer (some ⟨b, o + k * 2, none⟩)), some (.agg #[.string a.n, .slice pa a.us.length ca]), none, none, none, some (.pointer (some ⟨w.heap.size + 1 + 1, 1, none⟩)), none] [7, 8, 9, 11] (AppSt 48 (w.heap.size + 1) (w.heap.size + 1 + 1) CP v k wr 7 8 9) (by kernel_rfl) (by kernel_rfl) (by first | kernel_rfl | rfl) (by rfl) rfl ?_
        refine chain_st rfl rfl (by decide) rfl (by intro j u w' hS; go_simp; first | done | exact ⟨hS, rfl⟩ | exact hS | rfl) ?_
        go_simp
        refine chain_stb (c := 9) 2 rfl rfl (by decide) rfl rfl rfl (by first | kernel_rfl | rfl) ?_ ?_
        · intro j u w' hj hS
          have hc := AppSt.cell HGR.out HB1.out (by omega) hj hS
          go_simp
          first | done | exact ⟨hS, rfl⟩ | exact hS | rfl
        go_simp
        refine chain_st rfl rfl (by decide) rfl (by intro j u w' hS; go_simp; first | done | exact ⟨hS, rfl⟩ | exact hS | rfl) ?_
        go_simp
        refine chain_st rfl rfl (by decide) rfl ?_ ?_
        · intro j u w' hS
          have hc : w'.cell? ⟨w.heap.size, 1, none⟩ = _ := (World.cell?_of_block (HKEEP.out w.heap.size j u w' hS (by omega))).trans HY.out.1
          go_simp
          first | done | exact ⟨hS, rfl⟩ | exact hS | rfl
        go_simp
        refine chain_st rfl rfl (by decide) rfl (by intro j u w' hS; go_simp; first | done | exact ⟨hS, rfl⟩ | exact hS | rfl) ?_
        go_simp
        refine chain_st rfl rfl (by decide) rfl (by intro j u w' hS; go_simp; first | done | exact ⟨hS, rfl⟩ | exact hS | rfl) ?_
        go_simp
        refine chain_st rfl rfl (by decide) rfl ?_ ?_
        · intro j u w' hS
          have hc0 : w'.cell? ⟨b, o + k * 2, none⟩ = _ := (World.cell?_of_block (HKEEP.out b j u w' hS hbl)).trans HY.out.2.1
          have hc1 : w'.cell? ⟨b, o + k * 2 + 1, none⟩ = _ := (World.cell?_of_block (HKEEP.out b j u w' hS hbl)).trans HY.out.2.2
          go_simp
          first | done | exact ⟨hS, rfl⟩ | exact hS | rfl
        go_simp
        refine chain_first rfl rfl rfl (by decide) rfl ?_ ?_
        · intro w' hS
          obtain rfl : w' = wr.drew := hS
          go_simp
          refine (IH.out a _ _ _ (TmAt.below (by (repeat (first | with_reducible exact Below.refl _ _ | with_reducible assumption | with_reducible refine Below.al ?_ _ | with_reducible refine Below.sc ?_ (by first | exact Nat.le_refl _ | (simp; done) | (simp; omega)) _ | assumption | exact Below.refl _ _ | refine Below.dr ?_ | refine Below.drN ?_ _ | refine Below.step ?_ (by assumption)))) HX.out) (by omega)).mono ?_
          rintro e w'' ⟨u0, u1, he, hx⟩
          refine ⟨_, he, ?_⟩
          show CP (upd _ 7 _ 7) w''
          rw [upd_same, HCP.out]
          exact ⟨u0, u1, rfl, hx.1, ⟨hx.2.os, hx.2.tape, hx.2.output, hx.2.size, hx.2.block⟩⟩
        intro x
        go_simp
        refine chain_next 0 rfl rfl rfl rfl (by decide) rfl (by first | kernel_rfl | rfl) ?_ ?_
        · intro w' hS
          have hS : CP (upd _ 7 x 7) w' := hS
          rw [upd_same] at hS
          obtain ⟨v0, v1, rfl, o0, o1⟩ := HAGG.out _ _ hS
          go_simp
          exact ⟨w', v0, v1, hS, by rw [upd_same], rfl⟩
        intro y
        go_simp
        refine chain_next 1 rfl rfl rfl rfl (by decide) rfl (by first | kernel_rfl | rfl) ?_ ?_
        · intro w' hS
          obtain ⟨w1', v0, v1, hcp, hy, rfl⟩ := hS
          rw [upd_same] at hy
          subst hy
          obtain ⟨v0', v1', he, o0, o1⟩ := HAGG.out _ _ hcp
          simp only [Value.agg.injEq, Array.mk.injEq, List.cons.injEq, and_true] at he
          obtain ⟨rfl, rfl⟩ := he
          have hG1 := HGR.out _ _ hcp
          have hv2 := HV.out
          have hkw : w1'.ownsRow 0 48 2 v k vals := own_same hv2 (fun b' hb' hl => hG1.block b' hl (by
            obtain ⟨-, vals2, Ss2, -, q2, -⟩ := HLS.out.row
            have := q2 b' hb'
            simp; omega))
          refine each_app1 (.tmp 16) (.tmp 23) _ rfl 0 48 2 40 elemTmI v k vals rfl w1' #[v0, v1] rfl rfl hkw rfl (by intro u hu; simp at hu; rcases hu with rfl | rfl <;> assumption) (by omega) (by unfold maxLen; omega) (Nat.zero_le _) ?_
          intro v' w3 happ hg3 hnr hsz
          exact ⟨w1', v0, v1, hcp, by rw [upd_same]; exact happ, hg3, by rw [upd_same]; exact hnr, hsz⟩
        intro z
        go_simp
        refine chain_st rfl rfl (by decide) rfl (by intro j u w' hS; simp only [baseV10]; go_simp; first | done | exact ⟨hS, rfl⟩ | exact hS | rfl) ?_
        simp only [baseV10]
        go_simp
        refine chain_next 2 rfl rfl rfl rfl (by decide) rfl (by first | kernel_rfl | rfl) ?_ ?_
        · intro w' hS
          obtain ⟨w1', v0, v1, hcp, happ, hg3, hnr, hsz⟩ := hS
          rw [upd_same] at happ hnr
          have hcp2 := hcp
          rw [HCP.out] at hcp2
          obtain ⟨u0, u1, he, hO, hB1⟩ := hcp2
          simp only [Value.agg.injEq, Array.mk.injEq, List.cons.injEq, and_true] at he
          obtain ⟨rfl, rfl⟩ := he
          have HL1 := HLS.out.later hB1
          have hkw : w1'.ownsRow 0 48 2 v k vals := own_same HV.out (fun b' hb' hl => hB1.block b' hl)
          have happ0 := happ 0 vals hkw (Nat.zero_le _)
          rw [← hlk] at happ0
          obtain ⟨⟨q', c', rfl⟩, hbt, -⟩ := HL1.three happ0 hg3
          have hcell : w'.cell? ⟨w.heap.size + 1 + 1, 1, none⟩ = some v := by rw [cell_of_row w' _ 1 _ _ (0, 0) hbt]; rfl
          have hfro : w'.frozen? ⟨w.heap.size + 1 + 1, 1, none⟩ = false := frozen_of_row w' _ 1 _ _ hbt
          clear hbt
          rw [hlk] at happ0
          simp only [hlk] at happ hnr
          go_simp
          refine ⟨w1', w', v0, v1, hcp, ?_, hg3, ?_, hsz, ?_⟩
          · rw [upd_other _ _ (by decide), upd_same]; exact happ
          · rw [upd_other _ _ (by decide), upd_same]; exact hnr
          · rw [upd_other _ _ (by decide), upd_same]
        intro x'
        refine flowU_nil ?_
        intro wz hz
        obtain ⟨w1', w3', v0, v1, hcp, happ, hg3, hnr, hsz, rfl⟩ := hz
        rw [upd_other _ _ (by decide), upd_same] at happ hnr
        rw [HCP.out] at hcp
        obtain ⟨u0, u1, he, hO, hB1⟩ := hcp
        simp only [Value.agg.injEq, Array.mk.injEq, List.cons.injEq, and_true] at he
        obtain ⟨rfl, rfl⟩ := he
        have hkw : w1'.ownsRow 0 48 2 v (us.take k).length vals := by rw [hlk]; exact own_same HV.out (fun b' hb' hl => hB1.block b' hl)
        have happ0 := happ 0 vals (by rw [hlk] at hkw; exact hkw) (Nat.zero_le _)
        have HZ := Lib.hid (HLS.out.app (a := a) hB1 hO hkw (by rw [hlk]; exact happ0) hg3 hnr (by omega))
        rw [← HTK.out] at HZ
        have hu9 : upd (upd (upd (upd (fun x => undef) 7 x) 8 y) 9 z) 11 x' 9 = z := by rw [upd_other _ _ (by decide), upd_same]
        rw [hu9]
        clear happ hnr hO hB1 hkw happ0 hg3 hsz
        go_simp
        go_wp2
        exact ⟨⟨k + 1, z, by omega, by go_num, HZ.out⟩, by simp [intOf]; omega⟩
      · obtain rfl : k = us.length := by omega
        have HTA := Lib.hid (show us.take us.length = us from List.take_length)
        rw [HTA.out] at HLS
        obtain ⟨pv, cv, hvv, -⟩ := HLS.out.row.form
        subst hvv
        obtain ⟨b0, b1, bf⟩ := cells2_cell HLS.out.cell
        obtain ⟨r0, r1, rf⟩ := cells2_cell HLS.out.res
        have zb := bsz (show w.heap.size + 1 < wr.heap.size by omega)
        have zb1 := bsz (show w.heap.size + 1 + 1 < wr.heap.size by omega)
        go_wp2
        refine bodyPost_ret (v := .agg #[.string n, .slice pv us.length cv]) (by simp only [results, Try.results34]; go_simp) rfl ⟨_, _, rfl, ?_⟩
        obtain ⟨h1, h2⟩ := LSt.out HLS.out HN.out (.string n) (.slice pv us.length cv)
        exact ⟨TmOwn.mono _ _ _ _ (Nat.le_refl _) (SameOn.refl _ _) (fun q hq => ⟨by omega, hq.2⟩) h2, hbp.trans (h1.mono hbp.size)⟩
end Go.Proofs.Ytdklemmincejpaa
namespace Go.Proofs.Ytdklemmincejpaa
open Go.RowKit
set_option maxRecDepth 100000 in
set_option maxHeartbeats 1600000 in
theorem l8Literal_any {B : Nat → Prop} (m : Nat) (l : Lit3) (v0 v1 v2 : Value) (w : World) (h : LitAt B m w l [v0, v1, v2]) (hw : l.a.wt ≤ 1048576) :
    Calls Try.prog 20 #[.agg #[v0, v1, v2]] w fun e w' => ∃ u0 u1 u2 u3 u4, e = .returned (.agg #[u0, u1, u2, u3, u4]) ∧ FmAt (fun b => w.heap.size ≤ b) (m + 2) w' l.fm [u0, u1, u2, u3, u4] ∧ Below w.heap.size w w' := by
  obtain ⟨p, c, rfl, rfl, rfl, ht⟩ := h.form
  have HT := Lib.hid ht
  have HW := Lib.hid hw
  have HL := Lib.hid (show l.fm = if l.pos then atomOfF l.a else opF 4 [atomOfF l.a] from rfl)
  clear h ht hw
  go_enter Try.func20, Try.ntmps20
  go_wp2_with fail
  obtain ⟨W, hW⟩ : ∃ W : World, W = (w.alloc (.cells #[.bool l.pos, .string l.a.n, .slice p l.a.us.length c] 50)).alloc (.cells #[.int .i64 0, .string ⟨#[]⟩, .slice none 0 0, .string ⟨#[]⟩, .slice none 0 0] 55) := ⟨_, rfl⟩
  have hsW : W.heap.size = w.heap.size + 2 := by rw [hW]; simp
  have hbW : Below w.heap.size w W := by rw [hW]; (repeat (first | with_reducible exact Below.refl _ _ | with_reducible assumption | with_reducible refine Below.al ?_ _ | with_reducible refine Below.sc ?_ (by first | exact Nat.le_refl _ | (simp; done) | (simp; omega)) _ | assumption | exact Below.refl _ _ | refine Below.dr ?_ | refine Below.drN ?_ _ | refine Below.step ?_ (by assumption)))
  have a0 : W.cell? ⟨w.heap.size, 0, none⟩ = some (.bool l.pos) := by rw [hW]; go_simp
  have a1 : W.cell? ⟨w.heap.size, 1, none⟩ = some (.string l.a.n) := by rw [hW]; go_simp
  have a2 : W.cell? ⟨w.heap.size, 2, none⟩ = some (.slice p l.a.us.length c) := by rw [hW]; go_simp
  have r0 : W.cell? ⟨w.heap.size + 1, 0, none⟩ = some (.int .i64 0) := by rw [hW]; go_simp
  have r1 : W.cell? ⟨w.heap.size + 1, 1, none⟩ = some (.string ⟨#[]⟩) := by rw [hW]; go_simp
  have r2 : W.cell? ⟨w.heap.size + 1, 2, none⟩ = some (.slice none 0 0) := by rw [hW]; go_simp
  have r3 : W.cell? ⟨w.heap.size + 1, 3, none⟩ = some (.string ⟨#[]⟩) := by rw [hW]; go_simp
  have r4 : W.cell? ⟨w.heap.size + 1, 4, none⟩ = some (.slice none 0 0) := by rw [hW]; go_simp
  have rf : ∀ j, W.frozen? ⟨w.heap.size + 1, j, none⟩ = false := fun j => by rw [hW]; go_simp
  rw [← hW]
  clear hW
  have zW := bsz (show w.heap.size < W.heap.size by omega)
  have zW1 := bsz (show w.heap.size + 1 < W.heap.size by omega)
  refine (l2Own_any m l.a _ _ _ (HT.out.below (by (repeat (first | with_reducible exact Below.refl _ _ | with_reducible assumption | with_reducible refine Below.al ?_ _ | with_reducible refine Below.sc ?_ (by first | exact Nat.le_refl _ | (simp; done) | (simp; omega)) _ | assumption | exact Below.refl _ _ | refine Below.dr ?_ | refine Below.drN ?_ _ | refine Below.step ?_ (by assumption))))) HW.out).mono ?_
  rintro e w1 ⟨u0, u1, rfl, hu, hb1⟩
  have ⟨cw1, fw1⟩ := bcell hb1
  have qw1 := hb1.size
  have hu2 := TmOwn.at_ _ _ _ hu
  obtain ⟨pu, cu, rfl, rfl, -, -⟩ := hu2.form
  have HU := Lib.hid hu2
  clear hu hu2
  have z1 := bsz (show w.heap.size < w1.heap.size by omega)
  have z11 := bsz (show w.heap.size + 1 < w1.heap.size by omega)
  have hw1 : Below w.heap.size w w1 := by (repeat (first | with_reducible exact Below.refl _ _ | with_reducible assumption | with_reducible refine Below.al ?_ _ | with_reducible refine Below.sc ?_ (by first | exact Nat.le_refl _ | (simp; done) | (simp; omega)) _ | assumption | exact Below.refl _ _ | refine Below.dr ?_ | refine Below.drN ?_ _ | refine Below.step ?_ (by assumption)))
  have hF : ∀ w', SameOn (fun b => W.heap.size ≤ b ∧ b < w1.heap.size) w1 w' → FmAt (fun b => w.heap.size ≤ b) (m + 1) w' (atomOfF l.a) [.int .i64 3, .string l.a.n, .slice pu l.a.us.length cu, .string ⟨#[]⟩, .slice none 0 0] := fun w' hs =>
    ⟨_, _, _, rfl, by omega, Nat.zero_le _, TmAt.mono hs (fun b hb => by omega) _ _ _ _ (Nat.le_refl _) HU.out, ListAt.nil _ _ _ _ _ _⟩
  have HF := Lib.hid hF
  clear hF HU
  cases hp : l.pos
  · have HL2 := Lib.hid (show l.fm = opF 4 [atomOfF l.a] by rw [HL.out, hp]; rfl)
    clear HT HL
    go_wp2
    refine bodyPost_ret (v := .agg #[.int .i64 4, .string ⟨#[]⟩, .slice none 0 0, .string ⟨#[]⟩, .slice (some ⟨w1.heap.size + 1, 0, none⟩) 1 1]) (by simp only [results, Try.results20]; go_simp) rfl ⟨_, _, _, _, _, rfl, ?_, by (repeat (first | with_reducible exact Below.refl _ _ | with_reducible assumption | with_reducible refine Below.al ?_ _ | with_reducible refine Below.sc ?_ (by first | exact Nat.le_refl _ | (simp; done) | (simp; omega)) _ | assumption | exact Below.refl _ _ | refine Below.dr ?_ | refine Below.drN ?_ _ | refine Below.step ?_ (by assumption)))⟩
    rw [HL2.out]
    refine opF_at (by omega) ?_
    refine list_one (e := 55) (cs := #[.int .i64 3, .string l.a.n, .slice pu l.a.us.length cu, .string ⟨#[]⟩, .slice none 0 0]) ?_ (by omega) rfl ?_
    · exact alloc_new_at (by simp)
    · exact HF.out _ (SameOn.al (SameOn.al (fun b hb _ => set5_other w1 _ _ _ _ _ (by omega)) (by simp) _) (by simp) _)
  · have HL2 := Lib.hid (show l.fm = atomOfF l.a by rw [HL.out, hp]; rfl)
    clear HT HL
    go_wp2
    refine bodyPost_ret (v := .agg #[.int .i64 3, .string l.a.n, .slice pu l.a.us.length cu, .string ⟨#[]⟩, .slice none 0 0]) (by simp only [results, Try.results20]; go_simp) rfl ⟨_, _, _, _, _, rfl, ?_, by (repeat (first | with_reducible exact Below.refl _ _ | with_reducible assumption | with_reducible refine Below.al ?_ _ | with_reducible refine Below.sc ?_ (by first | exact Nat.le_refl _ | (simp; done) | (simp; omega)) _ | assumption | exact Below.refl _ _ | refine Below.dr ?_ | refine Below.drN ?_ _ | refine Below.step ?_ (by assumption)))⟩
    rw [HL2.out]
    exact FmAt.mono (SameOn.refl _ _) (fun b hb => hb) _ _ _ _ (by omega) (HF.out _ (SameOn.al (fun b hb _ => set5_other w1 _ _ _ _ _ (by omega)) (by simp) _))
def ClRel (c : List Lit3) (w : World) (s i : Value) (wr : World) : Prop :=
  ∃ k : Nat, k < c.length ∧ i = .int .i64 ((k : Int) - 1) ∧ s = .string ⟨(disj (c.drop k)).eng.toArray⟩ ∧ Below w.heap.size w wr
set_option maxRecDepth 100000 in
set_option maxHeartbeats 1600000 in
theorem l26Clause_any {B : Nat → Prop} (m : Nat) (c : List Lit3) (v : Value) (w : World) (h : ClsAt B m w c v) (h8 : c.length ≤ 8) (ha : ∀ l ∈ c, l.a.atom = true) (hw : Cls.wts c ≤ 1048576) :
    Calls Try.prog 11 #[.agg #[v]] w fun e w' => e = .returned (.string ⟨(Cls.eng c).toArray⟩) ∧ Below w.heap.size w w' := by
  obtain ⟨p, d, rfl, -⟩ := (show ListAt B w 3 (LitAt B m w) v c from h).form
  have H := Lib.hid (show ListAt B w 3 (LitAt B m w) (.slice p c.length d) c from h)
  have HA := Lib.hid ha
  clear h ha
  by_cases h0 : c.length = 0
  · have HE := Lib.hid (show Cls.eng c = sContr from if_pos h0)
    obtain rfl : c = [] := List.eq_nil_of_length_eq_zero h0
    go_enter Try.func11, Try.ntmps11
    go_wp2
    go_ret
    exact ⟨ret_str (by rw [HE.out]; rfl), by (repeat (first | with_reducible exact Below.refl _ _ | with_reducible assumption | with_reducible refine Below.al ?_ _ | with_reducible refine Below.sc ?_ (by first | exact Nat.le_refl _ | (simp; done) | (simp; omega)) _ | assumption | exact Below.refl _ _ | refine Below.dr ?_ | refine Below.drN ?_ _ | refine Below.step ?_ (by assumption)))⟩
  · have HE := Lib.hid (show Cls.eng c = (disj c).eng from if_neg h0)
    have HW := Lib.hid (fun l hl => Nat.le_trans (Cls.wts_le c l hl) hw)
    have h0i : ((c.length : Int) == 0) = false := by rw [beq_eq_false_iff_ne]; omega
    have hw1 : IntKind.i64.wrap ((c.length : Int) - 1) = ((c.length - 1 : Nat) : Int) := by rw [IntWalk.i64_in _ (by omega)]; omega
    have hw2 : IntKind.i64.wrap ((c.length : Int) - 2) = ((c.length - 1 : Nat) : Int) - 1 := by rw [IntWalk.i64_in _ (by omega)]; omega
    have hlast : c.length - 1 < c.length := by omega
    have HLEN := Lib.hid (show ∀ k, k < c.length → (disj (c.drop k)).eng.length ≤ 40000000 from fun k hk => disj_len (by simp; omega) (by simp; omega) (fun l hl => HA.out l (List.mem_of_mem_drop hl)) (Nat.le_trans (Cls.wts_drop_le c k) hw))
    obtain ⟨b, o, rfl, hB, x0, x1, x2, hx0, hx1, hx2, hx⟩ := H.out.at3 hlast
    have hdl : c.drop (c.length - 1) = [c[c.length - 1]] := by rw [List.drop_eq_getElem_cons hlast, show c.length - 1 + 1 = c.length by omega, List.drop_length]
    have hal := HA.out _ (List.getElem_mem hlast)
    have hwl := HW.out _ (List.getElem_mem hlast)
    obtain ⟨a, hae⟩ : ∃ a, c[c.length - 1] = a := ⟨_, rfl⟩
    rw [hae] at hx hdl hal hwl
    have HX := Lib.hid hx
    have HDL := Lib.hid (show a.fm.eng = (disj (c.drop (c.length - 1))).eng by rw [hdl, disj_one])
    have HF := Lib.hid (And.intro (a.fm_form hal) (fm_len hal hwl))
    have zb := bsz (World.block_lt_of_cell? _ _ hx0)
    clear hx hae hdl
    go_enter Try.func11, Try.ntmps11
    go_wp2_with fail
    refine (l8Literal_any m a _ _ _ _ (LitAt.below (by (repeat (first | with_reducible exact Below.refl _ _ | with_reducible assumption | with_reducible refine Below.al ?_ _ | with_reducible refine Below.sc ?_ (by first | exact Nat.le_refl _ | (simp; done) | (simp; omega)) _ | assumption | exact Below.refl _ _ | refine Below.dr ?_ | refine Below.drN ?_ _ | refine Below.step ?_ (by assumption)))) HX.out) hwl).mono ?_
    rintro e w1 ⟨u0, u1, u2, u3, u4, rfl, hu, hb1⟩
    have ⟨cw1, fw1⟩ := bcell hb1
    have qw1 := hb1.size
    (try simp at qw1)
    (try have zw1w := bsz (show w.heap.size < w1.heap.size by omega))
    have HU := Lib.hid hu
    clear hu
    go_wp2_with fail
    refine (l26Formula_any (m + 2) a.fm _ _ _ _ _ _ HU.out HF.out.1 (by have := HF.out.2; omega)).mono ?_
    rintro e w2 ⟨rfl, hb2⟩
    have ⟨cw2, fw2⟩ := bcell hb2
    have qw2 := hb2.size
    (try simp at qw2)
    (try have zw2w := bsz (show w.heap.size < w2.heap.size by omega))
    (try have zw2w1 := bsz (show w1.heap.size < w2.heap.size by omega))
    go_wp2
    have a0 : w2.cell? ⟨w.heap.size, 0, none⟩ = some (.slice (some ⟨b, o, none⟩) c.length d) := by go_simp
    have hbw2 : Below w.heap.size w w2 := by (repeat (first | with_reducible exact Below.refl _ _ | with_reducible assumption | with_reducible refine Below.al ?_ _ | with_reducible refine Below.sc ?_ (by first | exact Nat.le_refl _ | (simp; done) | (simp; omega)) _ | assumption | exact Below.refl _ _ | refine Below.dr ?_ | refine Below.drN ?_ _ | refine Below.step ?_ (by assumption)))
    have hsz2 : w.heap.size < w2.heap.size := by omega
    clear cw1 fw1 cw2 fw2 hb1 hb2
    go_loopw [4, 5] (ClRel c w2) (fun _ i _ => (intOf i + 1).toNat)
    case atStart => exact ⟨c.length - 1, hlast, rfl, by rw [HDL.out], Below.refl _ _⟩
    case round =>
      obtain ⟨k, hk, rfl, rfl, hb⟩ := hrel
      have hqr := hb.size
      have b0 : wr.cell? ⟨w.heap.size, 0, none⟩ = some (.slice (some ⟨b, o, none⟩) c.length d) := (World.cell?_of_block (hb.block _ hsz2)).trans a0
      have hwr : Below w.heap.size w wr := hbw2.trans (hb.mono hbw2.size)
      cases k with
      | zero =>
        clear a0
        go_wp2
        go_ret
        exact ⟨ret_str (by rw [HE.out]; rfl), hwr⟩
      | succ k =>
        have hkl : k < c.length := by omega
        obtain ⟨b', o', hq, -, y0, y1, y2, hy0, hy1, hy2, hy⟩ := (H.out.mono (SameOn.below hwr) (fun _ h => h) (fun x cs _ hx => LitAt.below hwr hx)).at3 hkl
        simp only [Option.some.injEq, Addr.mk.injEq, and_true] at hq
        obtain ⟨rfl, rfl⟩ := hq
        have hdd := disj_drop (show k + 1 < c.length by omega)
        have hal2 := HA.out _ (List.getElem_mem hkl)
        have hwl2 := HW.out _ (List.getElem_mem hkl)
        have hln := HLEN.out (k + 1) hk
        obtain ⟨a', hae⟩ : ∃ a', c[k] = a' := ⟨_, rfl⟩
        rw [hae] at hy hdd hal2 hwl2
        have HY := Lib.hid hy
        have HDD := Lib.hid (show (disj (c.drop k)).eng = sEither ++ a'.fm.eng ++ sOr ++ (disj (c.drop (k + 1))).eng by rw [hdd, eng_or])
        have hl2 := fm_len hal2 hwl2
        have HF2 := Lib.hid (a'.fm_form hal2)
        have hki : ((k + 1 : Nat) : Int) - 1 = k := by omega
        have hkl2 : (k : Int) < c.length := by omega
        have hwk : IntKind.i64.wrap ((k : Int) - 1) = (k : Int) - 1 := IntWalk.i64_in _ (by omega)
        have zr := bsz (show w.heap.size < wr.heap.size by omega)
        rw [hki]
        clear a0 hy hae hdd
        go_wp2_with fail
        refine (l8Literal_any m a' _ _ _ _ (LitAt.below (by (repeat (first | with_reducible exact Below.refl _ _ | with_reducible assumption | with_reducible refine Below.al ?_ _ | with_reducible refine Below.sc ?_ (by first | exact Nat.le_refl _ | (simp; done) | (simp; omega)) _ | assumption | exact Below.refl _ _ | refine Below.dr ?_ | refine Below.drN ?_ _ | refine Below.step ?_ (by assumption)))) HY.out) hwl2).mono ?_
        rintro e w3 ⟨t0, t1, t2, t3, t4, rfl, ht, hb3⟩
        have ⟨cw3, fw3⟩ := bcell hb3
        have qw3 := hb3.size
        (try simp at qw3)
        (try have zw3w := bsz (show w.heap.size < w3.heap.size by omega))
        (try have zw3w1 := bsz (show w1.heap.size < w3.heap.size by omega))
        (try have zw3w2 := bsz (show w2.heap.size < w3.heap.size by omega))
        have HT := Lib.hid ht
        clear ht
        go_wp2_with fail
        refine (l26Formula_any (m + 2) a'.fm _ _ _ _ _ _ HT.out HF2.out (by omega)).mono ?_
        rintro e w4 ⟨rfl, hb4⟩
        have ⟨cw4, fw4⟩ := bcell hb4
        have qw4 := hb4.size
        (try simp at qw4)
        (try have zw4w := bsz (show w.heap.size < w4.heap.size by omega))
        (try have zw4w1 := bsz (show w1.heap.size < w4.heap.size by omega))
        (try have zw4w2 := bsz (show w2.heap.size < w4.heap.size by omega))
        (try have zw4w3 := bsz (show w3.heap.size < w4.heap.size by omega))
        go_wp2
        exact ⟨⟨k, by omega, rfl, congrArg Value.string (str_eq (by rw [HDD.out]; simp [sEither, sOr])), by (repeat (first | with_reducible exact Below.refl _ _ | with_reducible assumption | with_reducible refine Below.al ?_ _ | with_reducible refine Below.sc ?_ (by first | exact Nat.le_refl _ | (simp; done) | (simp; omega)) _ | assumption | exact Below.refl _ _ | refine Below.dr ?_ | refine Below.drN ?_ _ | refine Below.step ?_ (by assumption)))⟩, by simp [intOf]⟩
set_option maxHeartbeats 800000 in
theorem specCTE_any {B : Nat → Prop} (m : Nat) (c : List Lit3) (v : Value) (w : World) (h : ClsAt B m w c v) (hw : Cls.wts c ≤ 1048576) :
    Calls Try.prog 5 #[.agg #[v]] w fun e w' => e = .returned (.tuple #[.string ⟨(Cls.engG c).toArray⟩, .bool (Cls.good c)]) ∧ Below w.heap.size w w' := by
  obtain ⟨p, d, rfl, -⟩ := (show ListAt B w 3 (LitAt B m w) v c from h).form
  have H := Lib.hid h
  have HZ := Lib.hid (show ∀ l ∈ c, l.a.sz ≤ 100000000 from fun l hl => by have h1 := Cls.wts_le c l hl; have h2 := l.a.sz_wt; omega)
  clear h
  cases hg : Cls.good c
  · have HG := Lib.hid hg
    go_enter Try.func5, Try.ntmps5
    go_wp2_with fail
    refine (l7Good_any m c _ _ (ClsAt.below (by (repeat (first | with_reducible exact Below.refl _ _ | with_reducible assumption | with_reducible refine Below.al ?_ _ | with_reducible refine Below.sc ?_ (by first | exact Nat.le_refl _ | (simp; done) | (simp; omega)) _ | assumption | exact Below.refl _ _ | refine Below.dr ?_ | refine Below.drN ?_ _ | refine Below.step ?_ (by assumption)))) H.out) HZ.out).mono ?_
    rintro e w1 ⟨rfl, hb1⟩
    have ⟨cw1, fw1⟩ := bcell hb1
    have qw1 := hb1.size
    (try simp at qw1)
    (try have zw1w := bsz (show w.heap.size < w1.heap.size by omega))
    rw [HG.out]
    go_wp2
    go_ret2
    exact ⟨by rw [Cls.engG, HG.out]; rfl, by (repeat (first | with_reducible exact Below.refl _ _ | with_reducible assumption | with_reducible refine Below.al ?_ _ | with_reducible refine Below.sc ?_ (by first | exact Nat.le_refl _ | (simp; done) | (simp; omega)) _ | assumption | exact Below.refl _ _ | refine Below.dr ?_ | refine Below.drN ?_ _ | refine Below.step ?_ (by assumption)))⟩
  · have HG := Lib.hid hg
    have HA := Lib.hid (good_atoms hg)
    go_enter Try.func5, Try.ntmps5
    go_wp2_with fail
    refine (l7Good_any m c _ _ (ClsAt.below (by (repeat (first | with_reducible exact Below.refl _ _ | with_reducible assumption | with_reducible refine Below.al ?_ _ | with_reducible refine Below.sc ?_ (by first | exact Nat.le_refl _ | (simp; done) | (simp; omega)) _ | assumption | exact Below.refl _ _ | refine Below.dr ?_ | refine Below.drN ?_ _ | refine Below.step ?_ (by assumption)))) H.out) HZ.out).mono ?_
    rintro e w1 ⟨rfl, hb1⟩
    have ⟨cw1, fw1⟩ := bcell hb1
    have qw1 := hb1.size
    (try simp at qw1)
    (try have zw1w := bsz (show w.heap.size < w1.heap.size by omega))
    rw [HG.out]
    go_wp2_with fail
    refine (l26Clause_any m c _ _ (ClsAt.below (by (repeat (first | with_reducible exact Below.refl _ _ | with_reducible assumption | with_reducible refine Below.al ?_ _ | with_reducible refine Below.sc ?_ (by first | exact Nat.le_refl _ | (simp; done) | (simp; omega)) _ | assumption | exact Below.refl _ _ | refine Below.dr ?_ | refine Below.drN ?_ _ | refine Below.step ?_ (by assumption)))) H.out) HA.out.1 HA.out.2 hw).mono ?_
    rintro e w2 ⟨rfl, hb2⟩
    have ⟨cw2, fw2⟩ := bcell hb2
    have qw2 := hb2.size
    (try simp at qw2)
    (try have zw2w := bsz (show w.heap.size < w2.heap.size by omega))
    (try have zw2w1 := bsz (show w1.heap.size < w2.heap.size by omega))
    go_wp2
    go_ret2
    exact ⟨by rw [Cls.engG, HG.out]; rfl, by (repeat (first | with_reducible exact Below.refl _ _ | with_reducible assumption | with_reducible refine Below.al ?_ _ | with_reducible refine Below.sc ?_ (by first | exact Nat.le_refl _ | (simp; done) | (simp; omega)) _ | assumption | exact Below.refl _ _ | refine Below.dr ?_ | refine Below.drN ?_ _ | refine Below.step ?_ (by assumption)))⟩
end Go.Proofs.Ytdklemmincejpaa
namespace Go.Proofs.Ytdklemmincejpaa
open Go.RowKit
set_option maxHeartbeats 800000 in
theorem szLiteral_any {B : Nat → Prop} (n : Nat) (l : Lit3) (v0 v1 v2 : Value) (left : Int) (w : World) (h : LitAt B n w l [v0, v1, v2]) (h0 : 0 ≤ left) (h1 : left ≤ 1048576) :
    Calls Try.prog 16 #[.agg #[v0, v1, v2], .int .i64 left] w fun e w' => e = .returned (.int .i64 (szR left l.a.wt)) ∧ Below w.heap.size w w' := by
  obtain ⟨p, c, rfl, rfl, rfl, ht⟩ := h.form
  have HT := Lib.hid ht
  clear h ht
  by_cases hc : (l.a.wt : Int) ≤ left
  · have HR := Lib.hid (show szR left l.a.wt = left - l.a.wt from if_pos hc)
    go_enter Try.func16, Try.ntmps16
    go_wp2_with fail
    refine (szTerm_any n l.a _ _ _ _ (HT.out.below (by (repeat (first | with_reducible exact Below.refl _ _ | with_reducible assumption | with_reducible refine Below.al ?_ _ | with_reducible refine Below.sc ?_ (by first | exact Nat.le_refl _ | (simp; done) | (simp; omega)) _ | assumption | exact Below.refl _ _ | refine Below.dr ?_ | refine Below.drN ?_ _ | refine Below.step ?_ (by assumption))))) h0 h1).mono ?_
    rintro e w1 ⟨rfl, hb1⟩
    have ⟨cw1, fw1⟩ := bcell hb1
    have qw1 := hb1.size
    (try simp at qw1)
    (try have zw1w := bsz (show w.heap.size < w1.heap.size by omega))
    rw [HR.out]
    go_wp2
    go_ret
    exact ⟨ret_int (by rw [szR, if_pos hc]), by (repeat (first | with_reducible exact Below.refl _ _ | with_reducible assumption | with_reducible refine Below.al ?_ _ | with_reducible refine Below.sc ?_ (by first | exact Nat.le_refl _ | (simp; done) | (simp; omega)) _ | assumption | exact Below.refl _ _ | refine Below.dr ?_ | refine Below.drN ?_ _ | refine Below.step ?_ (by assumption)))⟩
  · have HR := Lib.hid (show szR left l.a.wt = -1 from if_neg hc)
    go_enter Try.func16, Try.ntmps16
    go_wp2_with fail
    refine (szTerm_any n l.a _ _ _ _ (HT.out.below (by (repeat (first | with_reducible exact Below.refl _ _ | with_reducible assumption | with_reducible refine Below.al ?_ _ | with_reducible refine Below.sc ?_ (by first | exact Nat.le_refl _ | (simp; done) | (simp; omega)) _ | assumption | exact Below.refl _ _ | refine Below.dr ?_ | refine Below.drN ?_ _ | refine Below.step ?_ (by assumption))))) h0 h1).mono ?_
    rintro e w1 ⟨rfl, hb1⟩
    have ⟨cw1, fw1⟩ := bcell hb1
    have qw1 := hb1.size
    (try simp at qw1)
    (try have zw1w := bsz (show w.heap.size < w1.heap.size by omega))
    rw [HR.out]
    go_wp2
    go_ret
    exact ⟨ret_int (by rw [szR, if_neg (by omega)]), by (repeat (first | with_reducible exact Below.refl _ _ | with_reducible assumption | with_reducible refine Below.al ?_ _ | with_reducible refine Below.sc ?_ (by first | exact Nat.le_refl _ | (simp; done) | (simp; omega)) _ | assumption | exact Below.refl _ _ | refine Below.dr ?_ | refine Below.drN ?_ _ | refine Below.step ?_ (by assumption)))⟩
set_option maxRecDepth 100000 in
set_option maxHeartbeats 800000 in
theorem szLiteralS_any {B : Nat → Prop} (n : Nat) (us : List Lit3) (va : Value) (left : Int) (w : World) (h : ListAt B w 3 (LitAt B n w) va us) (h0 : 0 ≤ left) (h1 : left ≤ 1048576) :
    Calls Try.prog 9 #[va, .int .i64 left] w fun e w' => e = .returned (.int .i64 (szR left (us.length + Cls.wts us))) ∧ Below w.heap.size w w' := by
  obtain ⟨p, c, rfl, hlen⟩ := h.form
  unfold maxLen at hlen
  have H := Lib.hid h
  clear h
  by_cases hl : (us.length : Int) ≤ left
  · go_enter Try.func9, Try.ntmps9
    go_wp2
    go_loopw [1, 5] (fun l i wr => ∃ k done : Nat, k ≤ us.length ∧ i = .int .i64 k ∧ done + Cls.wts (us.drop k) = Cls.wts us ∧ l = .int .i64 (left - us.length - done) ∧ (done : Int) ≤ left - us.length ∧ Below w.heap.size w wr) (fun _ i _ => us.length - (intOf i).toNat)
    case atStart => exact ⟨0, 0, Nat.zero_le _, rfl, by simp, by simp, by omega, by (repeat (first | with_reducible exact Below.refl _ _ | with_reducible assumption | with_reducible refine Below.al ?_ _ | with_reducible refine Below.sc ?_ (by first | exact Nat.le_refl _ | (simp; done) | (simp; omega)) _ | assumption | exact Below.refl _ _ | refine Below.dr ?_ | refine Below.drN ?_ _ | refine Below.step ?_ (by assumption)))⟩
    case round =>
      obtain ⟨k, done, hk, rfl, hd, rfl, hdl, hb⟩ := hrel
      have HD := Lib.hid hd
      clear hd
      by_cases hlt : k < us.length
      · obtain ⟨b, o, rfl, hB, x0, x1, x2, hx0, hx1, hx2, hx⟩ := (H.out.mono (SameOn.below hb) (fun _ h => h) (fun x cs _ hx => LitAt.below hb hx)).at3 hlt
        have HW := Lib.hid (Cls.wts_drop us hlt)
        obtain ⟨a, ha⟩ : ∃ a, us[k] = a := ⟨_, rfl⟩
        rw [ha] at hx HW
        have HX := Lib.hid hx
        clear hx ha
        by_cases hw : (a.a.wt : Int) ≤ left - us.length - done
        · have hs : szR (left - us.length - done) a.a.wt = left - us.length - done - a.a.wt := if_pos hw
          have HS := Lib.hid hs
          clear hs
          go_wp2_with fail
          refine (szLiteral_any n a x0 x1 x2 _ _ HX.out (by omega) (by omega)).mono ?_
          rintro e w1 ⟨rfl, hb1⟩
          have ⟨cw1, fw1⟩ := bcell hb1
          have qw1 := hb1.size
          (try simp at qw1)
          (try have zw1w := bsz (show w.heap.size < w1.heap.size by omega))
          rw [HS.out]
          go_wp2
          have h1 := HD.out
          have h2 := HW.out
          refine ⟨⟨k + 1, done + a.a.wt, by omega, by go_num, by omega, ?_, by omega, by (repeat (first | with_reducible exact Below.refl _ _ | with_reducible assumption | with_reducible refine Below.al ?_ _ | with_reducible refine Below.sc ?_ (by first | exact Nat.le_refl _ | (simp; done) | (simp; omega)) _ | assumption | exact Below.refl _ _ | refine Below.dr ?_ | refine Below.drN ?_ _ | refine Below.step ?_ (by assumption)))⟩, by simp [intOf]; omega⟩
          exact congrArg (Value.int .i64) (by omega)
        · have HS := Lib.hid (show szR (left - us.length - done) a.a.wt = -1 from if_neg hw)
          go_wp2_with fail
          refine (szLiteral_any n a x0 x1 x2 _ _ HX.out (by omega) (by omega)).mono ?_
          rintro e w1 ⟨rfl, hb1⟩
          have ⟨cw1, fw1⟩ := bcell hb1
          have qw1 := hb1.size
          (try simp at qw1)
          (try have zw1w := bsz (show w.heap.size < w1.heap.size by omega))
          rw [HS.out]
          go_wp2
          go_ret
          have h1 := HD.out
          have h2 := HW.out
          exact ⟨ret_int (by rw [szR, if_neg (by omega)]), by (repeat (first | with_reducible exact Below.refl _ _ | with_reducible assumption | with_reducible refine Below.al ?_ _ | with_reducible refine Below.sc ?_ (by first | exact Nat.le_refl _ | (simp; done) | (simp; omega)) _ | assumption | exact Below.refl _ _ | refine Below.dr ?_ | refine Below.drN ?_ _ | refine Below.step ?_ (by assumption)))⟩
      · obtain rfl : k = us.length := by omega
        have hd := HD.out
        rw [List.drop_length, Cls.wts] at hd
        have HD2 := Lib.hid hd
        clear hd
        go_wp2
        go_ret
        have h1 := HD2.out
        exact ⟨ret_int (by rw [szR, if_pos (by omega)]; omega), by (repeat (first | with_reducible exact Below.refl _ _ | with_reducible assumption | with_reducible refine Below.al ?_ _ | with_reducible refine Below.sc ?_ (by first | exact Nat.le_refl _ | (simp; done) | (simp; omega)) _ | assumption | exact Below.refl _ _ | refine Below.dr ?_ | refine Below.drN ?_ _ | refine Below.step ?_ (by assumption)))⟩
  · go_enter Try.func9, Try.ntmps9
    go_wp2
    go_ret
    exact ⟨ret_int (by rw [szR, if_neg (by omega)]), by (repeat (first | with_reducible exact Below.refl _ _ | with_reducible assumption | with_reducible refine Below.al ?_ _ | with_reducible refine Below.sc ?_ (by first | exact Nat.le_refl _ | (simp; done) | (simp; omega)) _ | assumption | exact Below.refl _ _ | refine Below.dr ?_ | refine Below.drN ?_ _ | refine Below.step ?_ (by assumption)))⟩
set_option maxHeartbeats 800000 in
theorem szClause_any {B : Nat → Prop} (n : Nat) (us : List Lit3) (v : Value) (left : Int) (w : World) (h : ClsAt B n w us v) (h0 : 0 ≤ left) (h1 : left ≤ 1048576) :
    Calls Try.prog 4 #[.agg #[v], .int .i64 left] w fun e w' => e = .returned (.int .i64 (szR left (us.length + Cls.wts us))) ∧ Below w.heap.size w w' := by
  obtain ⟨p, c, rfl, -⟩ := (show ListAt B w 3 (LitAt B n w) v us from h).form
  have H := Lib.hid h
  clear h
  by_cases hc : ((us.length + Cls.wts us : Nat) : Int) ≤ left
  · have HR := Lib.hid (show szR left (us.length + Cls.wts us) = left - (us.length + Cls.wts us : Nat) from if_pos hc)
    have hc2 : (us.length : Int) + (Cls.wts us : Nat) ≤ left := by omega
    go_enter Try.func4, Try.ntmps4
    go_wp2_with fail
    refine (szLiteralS_any n us _ _ _ (ClsAt.below (by (repeat (first | with_reducible exact Below.refl _ _ | with_reducible assumption | with_reducible refine Below.al ?_ _ | with_reducible refine Below.sc ?_ (by first | exact Nat.le_refl _ | (simp; done) | (simp; omega)) _ | assumption | exact Below.refl _ _ | refine Below.dr ?_ | refine Below.drN ?_ _ | refine Below.step ?_ (by assumption)))) H.out) h0 h1).mono ?_
    rintro e w1 ⟨rfl, hb1⟩
    have ⟨cw1, fw1⟩ := bcell hb1
    have qw1 := hb1.size
    (try simp at qw1)
    (try have zw1w := bsz (show w.heap.size < w1.heap.size by omega))
    rw [HR.out]
    go_wp2
    go_ret
    exact ⟨ret_int (by rw [szR, if_pos (by omega)]; omega), by (repeat (first | with_reducible exact Below.refl _ _ | with_reducible assumption | with_reducible refine Below.al ?_ _ | with_reducible refine Below.sc ?_ (by first | exact Nat.le_refl _ | (simp; done) | (simp; omega)) _ | assumption | exact Below.refl _ _ | refine Below.dr ?_ | refine Below.drN ?_ _ | refine Below.step ?_ (by assumption)))⟩
  · have HR := Lib.hid (show szR left (us.length + Cls.wts us) = -1 from if_neg hc)
    go_enter Try.func4, Try.ntmps4
    go_wp2_with fail
    refine (szLiteralS_any n us _ _ _ (ClsAt.below (by (repeat (first | with_reducible exact Below.refl _ _ | with_reducible assumption | with_reducible refine Below.al ?_ _ | with_reducible refine Below.sc ?_ (by first | exact Nat.le_refl _ | (simp; done) | (simp; omega)) _ | assumption | exact Below.refl _ _ | refine Below.dr ?_ | refine Below.drN ?_ _ | refine Below.step ?_ (by assumption)))) H.out) h0 h1).mono ?_
    rintro e w1 ⟨rfl, hb1⟩
    have ⟨cw1, fw1⟩ := bcell hb1
    have qw1 := hb1.size
    (try simp at qw1)
    (try have zw1w := bsz (show w.heap.size < w1.heap.size by omega))
    rw [HR.out]
    go_wp2
    go_ret
    exact ⟨ret_int (by rw [szR, if_neg (by omega)]), by (repeat (first | with_reducible exact Below.refl _ _ | with_reducible assumption | with_reducible refine Below.al ?_ _ | with_reducible refine Below.sc ?_ (by first | exact Nat.le_refl _ | (simp; done) | (simp; omega)) _ | assumption | exact Below.refl _ _ | refine Below.dr ?_ | refine Below.drN ?_ _ | refine Below.step ?_ (by assumption)))⟩
set_option maxRecDepth 100000 in
set_option maxHeartbeats 1600000 in
theorem eqLiteral_same {B B' : Nat → Prop} (m : Nat) (l : Lit3) (v0 v1 v2 u0 u1 u2 : Value) (w : World) (h : LitAt B m w l [v0, v1, v2]) (h' : LitAt B' m w l [u0, u1, u2]) :
    Calls Try.prog 26 #[.agg #[v0, v1, v2], .agg #[u0, u1, u2]] w fun e w' => e = .returned (.bool true) ∧ Below w.heap.size w w' := by
  obtain ⟨p, c, rfl, rfl, rfl, ht⟩ := h.form
  obtain ⟨p', c', rfl, rfl, rfl, ht'⟩ := h'.form
  have HT := Lib.hid ht
  have HT' := Lib.hid ht'
  clear h ht h' ht'
  have hpp : (l.pos != l.pos) = false := by simp
  go_enter Try.func26, Try.ntmps26
  go_wp2_with fail
  refine (eqTerm_same m l.a _ _ _ _ _ (HT.out.below (by (repeat (first | with_reducible exact Below.refl _ _ | with_reducible assumption | with_reducible refine Below.al ?_ _ | with_reducible refine Below.sc ?_ (by first | exact Nat.le_refl _ | (simp; done) | (simp; omega)) _ | assumption | exact Below.refl _ _ | refine Below.dr ?_ | refine Below.drN ?_ _ | refine Below.step ?_ (by assumption))))) (HT'.out.below (by (repeat (first | with_reducible exact Below.refl _ _ | with_reducible assumption | with_reducible refine Below.al ?_ _ | with_reducible refine Below.sc ?_ (by first | exact Nat.le_refl _ | (simp; done) | (simp; omega)) _ | assumption | exact Below.refl _ _ | refine Below.dr ?_ | refine Below.drN ?_ _ | refine Below.step ?_ (by assumption)))))).mono ?_
  rintro e w1 ⟨rfl, hb1⟩
  have ⟨cw1, fw1⟩ := bcell hb1
  have qw1 := hb1.size
  (try simp at qw1)
  (try have zw1w := bsz (show w.heap.size < w1.heap.size by omega))
  go_wp2
  go_ret
  exact ⟨rfl, by (repeat (first | with_reducible exact Below.refl _ _ | with_reducible assumption | with_reducible refine Below.al ?_ _ | with_reducible refine Below.sc ?_ (by first | exact Nat.le_refl _ | (simp; done) | (simp; omega)) _ | assumption | exact Below.refl _ _ | refine Below.dr ?_ | refine Below.drN ?_ _ | refine Below.step ?_ (by assumption)))⟩
set_option maxRecDepth 100000 in
set_option maxHeartbeats 1600000 in
theorem eqLiteralS_same {B B' : Nat → Prop} (m : Nat) (us : List Lit3) (va ua : Value) (w : World) (h : ListAt B w 3 (LitAt B m w) va us) (h' : ListAt B' w 3 (LitAt B' m w) ua us) :
    Calls Try.prog 15 #[va, ua] w fun e w' => e = .returned (.bool true) ∧ Below w.heap.size w w' := by
  obtain ⟨p, c, rfl, hlen⟩ := h.form
  obtain ⟨p', c', rfl, -⟩ := h'.form
  unfold maxLen at hlen
  have H := Lib.hid h
  have H' := Lib.hid h'
  clear h h'
  go_enter Try.func15, Try.ntmps15
  go_wp2
  go_loopw [5] (fun i wr => ∃ k : Nat, k ≤ us.length ∧ i = .int .i64 k ∧ Below w.heap.size w wr) (fun i _ => us.length - (intOf i).toNat)
  case atStart => exact ⟨0, Nat.zero_le _, rfl, by (repeat (first | with_reducible exact Below.refl _ _ | with_reducible assumption | with_reducible refine Below.al ?_ _ | with_reducible refine Below.sc ?_ (by first | exact Nat.le_refl _ | (simp; done) | (simp; omega)) _ | assumption | exact Below.refl _ _ | refine Below.dr ?_ | refine Below.drN ?_ _ | refine Below.step ?_ (by assumption)))⟩
  case round =>
    obtain ⟨k, hk, rfl, hb⟩ := hrel
    by_cases hlt : k < us.length
    · obtain ⟨b, o, rfl, hB, x0, x1, x2, hx0, hx1, hx2, hx⟩ := (H.out.mono (SameOn.below hb) (fun _ h => h) (fun x cs _ hx => LitAt.below hb hx)).at3 hlt
      obtain ⟨b', o', rfl, hB', y0, y1, y2, hy0, hy1, hy2, hy⟩ := (H'.out.mono (SameOn.below hb) (fun _ h => h) (fun x cs _ hx => LitAt.below hb hx)).at3 hlt
      obtain ⟨a, ha⟩ : ∃ a, us[k] = a := ⟨_, rfl⟩
      rw [ha] at hx hy
      have HX := Lib.hid hx
      have HY := Lib.hid hy
      clear hx hy ha
      go_wp2
      obtain ⟨C, HC0⟩ := class_of (InF wr.heap.size _ [(⟨b, o + k * 3, none⟩, x0), (⟨b, o + k * 3 + 1, none⟩, x1), (⟨b, o + k * 3 + 2, none⟩, x2), (⟨b', o' + k * 3, none⟩, y0), (⟨b', o' + k * 3 + 1, none⟩, y1), (⟨b', o' + k * 3 + 2, none⟩, y2)] [] [])
      have HC := Lib.hid HC0
      clear HC0
      refine wp_region_flow (C := C) (by kernel_rfl) (by kernel_rfl) (fun L hL => (HC.out _ _).2 (InF.start (by first | (intro _ hs; cases hs; done) | (simp only [List.forall_mem_cons]; go_simp)) (by first | (intro _ hs; cases hs; done) | (simp only [List.forall_mem_cons]; go_simp)) (by first | (intro _ hs; cases hs; done) | (simp only [List.forall_mem_cons]; go_simp)) (by first | (intro _ hs; cases hs; done) | (simp only [List.forall_mem_cons]; go_simp)) L hL)) ?_
      repeat (first | (apply flow_free rfl; (intro L w' hun hrd hC; have hC := (HC.out _ _).1 hC; have hb' := hC.below; (try have hw' : Below w.heap.size w w' := by first | exact Below.trans (by (repeat (first | with_reducible exact Below.refl _ _ | with_reducible assumption | with_reducible refine Below.al ?_ _ | with_reducible refine Below.sc ?_ (by first | exact Nat.le_refl _ | (simp; done) | (simp; omega)) _ | assumption | exact Below.refl _ _ | refine Below.dr ?_ | refine Below.drN ?_ _ | refine Below.step ?_ (by assumption)))) hb' | ((repeat (first | with_reducible exact Below.refl _ _ | with_reducible assumption | with_reducible refine Below.al ?_ _ | with_reducible refine Below.sc ?_ (by first | exact Nat.le_refl _ | (simp; done) | (simp; omega)) _ | assumption | exact Below.refl _ _ | refine Below.dr ?_ | refine Below.drN ?_ _ | refine Below.step ?_ (by assumption))); done)); have hf' := hC.cell; (try simp only [List.forall_mem_cons] at hf'); go_simp; first | exact ⟨(HC.out _ _).2 (hC.skip _ (by rfl)), rfl⟩ | (rw [if_neg]; (exact ⟨(HC.out _ _).2 (hC.skip _ (by rfl)), rfl⟩); omega) | (go_at_call 26; refine (eqLiteral_same m a x0 x1 x2 y0 y1 y2 _ (LitAt.below hb' HX.out) (LitAt.below hb' HY.out)).mono ?_; rintro e w1 ⟨rfl, hb1⟩; exact ⟨rfl, (HC.out _ _).2 ((hC.next (by first | (simp; done) | (simp; omega) | omega) hb1).skip _ (by rfl))⟩)); go_simp) | (apply flow_yes; (case hw => go_simp); (intro L w' hun hrd hC; have hC := (HC.out _ _).1 hC; have hb' := hC.below; (try have hw' : Below w.heap.size w w' := by first | exact Below.trans (by (repeat (first | with_reducible exact Below.refl _ _ | with_reducible assumption | with_reducible refine Below.al ?_ _ | with_reducible refine Below.sc ?_ (by first | exact Nat.le_refl _ | (simp; done) | (simp; omega)) _ | assumption | exact Below.refl _ _ | refine Below.dr ?_ | refine Below.drN ?_ _ | refine Below.step ?_ (by assumption)))) hb' | ((repeat (first | with_reducible exact Below.refl _ _ | with_reducible assumption | with_reducible refine Below.al ?_ _ | with_reducible refine Below.sc ?_ (by first | exact Nat.le_refl _ | (simp; done) | (simp; omega)) _ | assumption | exact Below.refl _ _ | refine Below.dr ?_ | refine Below.drN ?_ _ | refine Below.step ?_ (by assumption))); done)); have hf' := hC.cell; (try simp only [List.forall_mem_cons] at hf'); go_simp; first | exact ⟨(HC.out _ _).2 (hC.skip _ (by rfl)), rfl⟩ | (rw [if_neg]; (exact ⟨(HC.out _ _).2 (hC.skip _ (by rfl)), rfl⟩); omega) | (go_at_call 26; refine (eqLiteral_same m a x0 x1 x2 y0 y1 y2 _ (LitAt.below hb' HX.out) (LitAt.below hb' HY.out)).mono ?_; rintro e w1 ⟨rfl, hb1⟩; exact ⟨rfl, (HC.out _ _).2 ((hC.next (by first | (simp; done) | (simp; omega) | omega) hb1).skip _ (by rfl))⟩)); go_simp) | (apply flow_no; (case hw => (go_simp; try (intro hh; cases hh))); (intro L w' _ _ hC; exact (HC.out _ _).2 (((HC.out _ _).1 hC).skip _ (by rfl))); go_simp))
      refine flow_nil ?_
      intro L wz hL hz
      have hz := (HC.out _ _).1 hz
      have hbz := hz.below
      have hcz := hz.cell
      try simp only [List.forall_mem_cons] at hcz
      have hdz := hz.done
      try simp only [List.forall_mem_cons] at hdz
      (try have hwz : Below w.heap.size w wz := by first | exact Below.trans (by (repeat (first | with_reducible exact Below.refl _ _ | with_reducible assumption | with_reducible refine Below.al ?_ _ | with_reducible refine Below.sc ?_ (by first | exact Nat.le_refl _ | (simp; done) | (simp; omega)) _ | assumption | exact Below.refl _ _ | refine Below.dr ?_ | refine Below.drN ?_ _ | refine Below.step ?_ (by assumption)))) hbz | ((repeat (first | with_reducible exact Below.refl _ _ | with_reducible assumption | with_reducible refine Below.al ?_ _ | with_reducible refine Below.sc ?_ (by first | exact Nat.le_refl _ | (simp; done) | (simp; omega)) _ | assumption | exact Below.refl _ _ | refine Below.dr ?_ | refine Below.drN ?_ _ | refine Below.step ?_ (by assumption))); done))
      go_wp2
      refine ⟨⟨k + 1, by omega, by go_num, Below.step hb hbz⟩, by simp [intOf]; omega⟩
    · go_wp2
      go_ret
      exact ⟨rfl, hb⟩
set_option maxRecDepth 100000 in
set_option maxHeartbeats 1600000 in
theorem eqClause_same {B B' : Nat → Prop} (m : Nat) (us : List Lit3) (v u : Value) (w : World) (h : ClsAt B m w us v) (h' : ClsAt B' m w us u) :
    Calls Try.prog 8 #[.agg #[v], .agg #[u]] w fun e w' => e = .returned (.bool true) ∧ Below w.heap.size w w' := by
  obtain ⟨p, c, rfl, -⟩ := (show ListAt B w 3 (LitAt B m w) v us from h).form
  obtain ⟨p', c', rfl, -⟩ := (show ListAt B' w 3 (LitAt B' m w) u us from h').form
  have H := Lib.hid h
  have H' := Lib.hid h'
  clear h h'
  go_enter Try.func8, Try.ntmps8
  go_wp2_with fail
  refine (eqLiteralS_same m us _ _ _ (ClsAt.below (by (repeat (first | with_reducible exact Below.refl _ _ | with_reducible assumption | with_reducible refine Below.al ?_ _ | with_reducible refine Below.sc ?_ (by first | exact Nat.le_refl _ | (simp; done) | (simp; omega)) _ | assumption | exact Below.refl _ _ | refine Below.dr ?_ | refine Below.drN ?_ _ | refine Below.step ?_ (by assumption)))) H.out) (ClsAt.below (by (repeat (first | with_reducible exact Below.refl _ _ | with_reducible assumption | with_reducible refine Below.al ?_ _ | with_reducible refine Below.sc ?_ (by first | exact Nat.le_refl _ | (simp; done) | (simp; omega)) _ | assumption | exact Below.refl _ _ | refine Below.dr ?_ | refine Below.drN ?_ _ | refine Below.step ?_ (by assumption)))) H'.out)).mono ?_
  rintro e w1 ⟨rfl, hb1⟩
  have ⟨cw1, fw1⟩ := bcell hb1
  have qw1 := hb1.size
  (try simp at qw1)
  (try have zw1w := bsz (show w.heap.size < w1.heap.size by omega))
  go_wp2
  go_ret
  exact ⟨rfl, by (repeat (first | with_reducible exact Below.refl _ _ | with_reducible assumption | with_reducible refine Below.al ?_ _ | with_reducible refine Below.sc ?_ (by first | exact Nat.le_refl _ | (simp; done) | (simp; omega)) _ | assumption | exact Below.refl _ _ | refine Below.dr ?_ | refine Below.drN ?_ _ | refine Below.step ?_ (by assumption)))⟩
set_option maxRecDepth 100000 in
set_option maxHeartbeats 800000 in
theorem toLiteral_any {B : Nat → Prop} (m : Nat) (l : Lit3) (v0 v1 v2 : Value) (w : World) (h : LitAt B m w l [v0, v1, v2]) (hw : l.a.wt ≤ 1048576) :
    Calls Try.prog 21 #[.agg #[v0, v1, v2]] w fun e w' => ∃ u0 u1 u2, e = .returned (.agg #[u0, u1, u2]) ∧ LitAt (fun b => w.heap.size ≤ b) m w' l [u0, u1, u2] ∧ Below w.heap.size w w' := by
  obtain ⟨p, c, rfl, rfl, rfl, ht⟩ := h.form
  have HT := Lib.hid ht
  clear h ht
  go_enter Try.func21, Try.ntmps21
  go_wp2_with fail
  refine (toTerm_any m l.a _ _ _ (HT.out.below (by (repeat (first | with_reducible exact Below.refl _ _ | with_reducible assumption | with_reducible refine Below.al ?_ _ | with_reducible refine Below.sc ?_ (by first | exact Nat.le_refl _ | (simp; done) | (simp; omega)) _ | assumption | exact Below.refl _ _ | refine Below.dr ?_ | refine Below.drN ?_ _ | refine Below.step ?_ (by assumption))))) hw).mono ?_
  rintro e w1 ⟨u0, u1, rfl, hu, hb1⟩
  have ⟨cw1, fw1⟩ := bcell hb1
  have qw1 := hb1.size
  (try simp at qw1)
  (try have zw1w := bsz (show w.heap.size < w1.heap.size by omega))
  obtain ⟨pu, cu, rfl, rfl, -, -⟩ := hu.form
  have HU := Lib.hid hu
  clear hu
  have y1 := bsz (show w.heap.size + 1 < w1.heap.size by omega)
  have y2 := bsz (show w.heap.size + 2 < w1.heap.size by omega)
  go_wp2
  refine bodyPost_ret (v := .agg #[.bool l.pos, .string l.a.n, .slice pu l.a.us.length cu]) (by simp only [results, Try.results21]; go_simp) rfl ?_
  refine ⟨_, _, _, rfl, ⟨_, _, rfl, ?_⟩, by (repeat (first | with_reducible exact Below.refl _ _ | with_reducible assumption | with_reducible refine Below.al ?_ _ | with_reducible refine Below.sc ?_ (by first | exact Nat.le_refl _ | (simp; done) | (simp; omega)) _ | assumption | exact Below.refl _ _ | refine Below.dr ?_ | refine Below.drN ?_ _ | refine Below.step ?_ (by assumption)))⟩
  exact HU.out.mono (by ((repeat' (first | with_reducible exact SameOn.refl _ _ | with_reducible refine SameOn.sc ?_ ?_ _ | with_reducible refine SameOn.al ?_ ?_ _ | with_reducible refine SameOn.be ?_ ?_ (by with_reducible assumption))) <;> (first | (intro b hb; simp at hb ⊢; omega) | exact Nat.le_refl _ | (simp; done) | (simp; omega) | omega))) (fun b hb => by simp at hb; omega) m m _ _ (Nat.le_refl _)
theorem elemLit : Elem Try.prog 28 50 3 48 := elem_of Try.underlying28 (z := .agg #[.bool false, .string ⟨#[]⟩, .slice none 0 0]) (by kernel_rfl) rfl (by omega)
def ToLitRel (g n m : Nat) (us : List Lit3) (w : World) (i : Value) (wr : World) : Prop :=
  ∃ (k : Nat) (xs : List Value), k ≤ n ∧ i = .int .i64 k ∧ wr.ownsRow g 50 3 (.slice (some ⟨g, 0, none⟩) n n) n xs ∧ Below w.heap.size w wr ∧
    ∀ j t, j < k → us[j]? = some t → ∃ y0 y1 y2, xs[j * 3]? = some y0 ∧ xs[j * 3 + 1]? = some y1 ∧ xs[j * 3 + 2]? = some y2 ∧ LitAt (fun b => g < b) m wr t [y0, y1, y2]
theorem listAt_row3 {α : Type} {B : Nat → Prop} {w : World} {R : α → List Value → Prop} {base g n c : Nat} {e : TypeId} {xs : List Value} {us : List α} (h : w.ownsRow base e 3 (.slice (some ⟨g, 0, none⟩) n c) n xs) (hn : n = us.length) (hm : n ≤ maxLen) (hB : B g)
    (hR : ∀ j t, us[j]? = some t → ∃ y0 y1 y2, xs[j * 3]? = some y0 ∧ xs[j * 3 + 1]? = some y1 ∧ xs[j * 3 + 2]? = some y2 ∧ R t [y0, y1, y2]) : ListAt B w 3 R (.slice (some ⟨g, 0, none⟩) n c) us := by
  subst hn
  refine ⟨_, _, rfl, hm, fun i t ht => ⟨g, 0, rfl, hB, ?_⟩⟩
  obtain ⟨y0, y1, y2, h0, h1, h2, hr⟩ := hR i t ht
  have hi : i < us.length := (List.getElem?_eq_some_iff.1 ht).1
  refine ⟨[y0, y1, y2], rfl, fun j hj => ?_, hr⟩
  rw [Nat.zero_add, h.cellAt (i * 3 + j) (by omega)]
  match j, hj with
  | 0, _ => simpa using h0
  | 1, _ => simpa using h1
  | 2, _ => simpa using h2
set_option maxRecDepth 100000 in
set_option maxHeartbeats 3200000 in
theorem toLiteralS_any {B : Nat → Prop} (m : Nat) (us : List Lit3) (va : Value) (w : World) (h : ListAt B w 3 (LitAt B m w) va us) (hw : us.length + Cls.wts us ≤ 1048576) :
    Calls Try.prog 12 #[va] w fun e w' => ∃ g, e = .returned (.slice (some ⟨g, 0, none⟩) us.length us.length) ∧ ListAt (fun b => w.heap.size ≤ b) w' 3 (LitAt (fun b => w.heap.size ≤ b) m w') (.slice (some ⟨g, 0, none⟩) us.length us.length) us ∧ Below w.heap.size w w' := by
  obtain ⟨p, c, rfl, -⟩ := h.form
  have H := Lib.hid h
  have HW := Lib.hid hw
  have hlen : us.length ≤ 1048576 := by omega
  obtain ⟨-, i, z, hi, hz, hsz, hby, hzs, -⟩ := elemLit
  clear h hw
  go_enter Try.func12, Try.ntmps12
  go_wp2_with (at_make; refine wpList_make_full _ rfl _ _ _ rfl w.heap.size 50 i z 3 Try.underlying28 hi hz hsz _ _ _ _ us.length rfl rfl rfl rfl (by rw [hby]; omega) (by unfold maxLen; omega) (Nat.le_refl _) ?_; intro w1 ho1 hg1)
  have hb1 : Below w.heap.size w w1 := ⟨hg1.os, hg1.tape, hg1.output, hg1.size, fun k hk => hg1.block k hk (by simp)⟩
  have HO1 := Lib.hid ho1
  clear ho1 hg1
  go_loopw [4] (ToLitRel w.heap.size us.length m us w) (fun i _ => us.length - (intOf i).toNat)
  case atStart => exact ⟨0, _, Nat.zero_le _, rfl, HO1.out, hb1, fun j t hj => absurd hj (Nat.not_lt_zero _)⟩
  case round =>
    obtain ⟨k, xs, hk, rfl, ho, hb, hall⟩ := hrel
    have HO := Lib.hid ho
    have HALL := Lib.hid hall
    have hxl : xs.length = us.length * 3 := ho.1
    clear ho hall HO1 hb1
    by_cases hlt : k < us.length
    · obtain ⟨b, o, rfl, hB, x0, x1, x2, hx0, hx1, hx2, hx⟩ := (H.out.mono (SameOn.below hb) (fun _ h => h) (fun x cs _ hx => LitAt.below hb hx)).at3 hlt
      have hwt := Cls.wts_le us _ (List.getElem_mem hlt)
      obtain ⟨a, ha⟩ : ∃ a, us[k] = a := ⟨_, rfl⟩
      have HK : Hid (us[k]? = some a) := Lib.hid (by rw [List.getElem?_eq_getElem hlt, ha])
      rw [ha] at hx hwt
      have HX := Lib.hid hx
      clear hx ha
      have hgw := own_lt HO.out
      go_wp2_with fail
      refine (toLiteral_any m a x0 x1 x2 _ HX.out (by have := HW.out; omega)).mono ?_
      rintro e w2 ⟨u0, u1, u2, rfl, hu, hb2⟩
      have ⟨cw2, fw2⟩ := bcell hb2
      have qw2 := hb2.size
      (try simp at qw2)
      (try have zw2w := bsz (show w.heap.size < w2.heap.size by omega))
      obtain ⟨pu, cu, rfl, rfl, rfl, -⟩ := hu.form
      have HU := Lib.hid hu
      have HO2 := Lib.hid (own_below HO.out hb2)
      clear hu
      obtain ⟨q0, hq0⟩ : ∃ q, w2.cell? ⟨w.heap.size, k * 3, none⟩ = some q := ⟨_, (HO2.out.cellAt (k * 3) (by omega)).trans (List.getElem?_eq_getElem (by omega))⟩
      obtain ⟨q1, hq1⟩ : ∃ q, w2.cell? ⟨w.heap.size, k * 3 + 1, none⟩ = some q := ⟨_, (HO2.out.cellAt (k * 3 + 1) (by omega)).trans (List.getElem?_eq_getElem (by omega))⟩
      obtain ⟨q2, hq2⟩ : ∃ q, w2.cell? ⟨w.heap.size, k * 3 + 2, none⟩ = some q := ⟨_, (HO2.out.cellAt (k * 3 + 2) (by omega)).trans (List.getElem?_eq_getElem (by omega))⟩
      have hf2 := fun j => HO2.out.frozenAt j
      clear cw2 fw2
      go_wp2
      generalize Value.bool a.pos = u0 at *
      generalize Value.string a.a.n = u1 at *
      generalize Value.slice pu a.a.us.length cu = u2 at *
      have ho4 := (((HO2.out.stored (k * 3) u0).1.stored (k * 3 + 1) u1).1.stored (k * 3 + 2) u2).1
      have hS : SameOn (fun b => w.heap.size < b) w2 (((w2.setCell ⟨w.heap.size, k * 3, none⟩ u0).setCell ⟨w.heap.size, k * 3 + 1, none⟩ u1).setCell ⟨w.heap.size, k * 3 + 2, none⟩ u2) := by
        refine ((((SameOn.refl _ _).sc ?_ _).sc ?_ _).sc ?_ _)
        all_goals (intro b hb e; simp at e; omega)
      refine ⟨⟨k + 1, _, by omega, by go_num, ho4, ?_, ?_⟩, by simp [intOf]; omega⟩
      · exact ((((show Below w.heap.size w w2 by (repeat (first | with_reducible exact Below.refl _ _ | with_reducible assumption | with_reducible refine Below.al ?_ _ | with_reducible refine Below.sc ?_ (by first | exact Nat.le_refl _ | (simp; done) | (simp; omega)) _ | assumption | exact Below.refl _ _ | refine Below.dr ?_ | refine Below.drN ?_ _ | refine Below.step ?_ (by assumption)))).setCell (Nat.le_refl _) _).setCell (Nat.le_refl _) _).setCell (Nat.le_refl _) _)
      · intro j t hj ht
        by_cases hjk : j = k
        · subst hjk
          rw [HK.out] at ht
          obtain rfl := Option.some.inj ht
          refine ⟨u0, u1, u2, ?_, ?_, ?_, LitAt.mono hS (fun b hb => hb) (Nat.le_refl _) (LitAt.mono (B' := fun b => w.heap.size < b) (SameOn.refl _ _) (fun b hb => by omega) (Nat.le_refl _) HU.out)⟩
          · repeat (first | rw [List.getElem?_set_self (by first | omega | (simp; done) | (simp; omega))] | rw [List.getElem?_set_ne (by omega)])
          · repeat (first | rw [List.getElem?_set_self (by first | omega | (simp; done) | (simp; omega))] | rw [List.getElem?_set_ne (by omega)])
          · repeat (first | rw [List.getElem?_set_self (by first | omega | (simp; done) | (simp; omega))] | rw [List.getElem?_set_ne (by omega)])
        · obtain ⟨y0, y1, y2, e0, e1, e2, hy⟩ := HALL.out j t (by omega) ht
          refine ⟨y0, y1, y2, ?_, ?_, ?_, LitAt.mono hS (fun b hb => hb) (Nat.le_refl _) (LitAt.below hb2 hy)⟩
          · repeat rw [List.getElem?_set_ne (by omega)]
            exact e0
          · repeat rw [List.getElem?_set_ne (by omega)]
            exact e1
          · repeat rw [List.getElem?_set_ne (by omega)]
            exact e2
    · obtain rfl : k = us.length := by omega
      go_wp2
      go_ret
      refine ⟨_, rfl, listAt_row3 HO.out rfl (by unfold maxLen; omega) (Nat.le_refl _) (fun j t ht => ?_), hb⟩
      obtain ⟨y0, y1, y2, e0, e1, e2, hy⟩ := HALL.out j t ((List.getElem?_eq_some_iff.1 ht).1) ht
      exact ⟨y0, y1, y2, e0, e1, e2, LitAt.mono (SameOn.refl _ _) (fun b hb => Nat.le_of_lt hb) (Nat.le_refl _) hy⟩
set_option maxRecDepth 100000 in
set_option maxHeartbeats 800000 in
theorem toClause_any {B : Nat → Prop} (m : Nat) (us : List Lit3) (v : Value) (w : World) (h : ClsAt B m w us v) (hw : us.length + Cls.wts us ≤ 1048576) :
    Calls Try.prog 6 #[.agg #[v]] w fun e w' => ∃ g, e = .returned (.agg #[.slice (some ⟨g, 0, none⟩) us.length us.length]) ∧ ClsAt (fun b => w.heap.size ≤ b) m w' us (.slice (some ⟨g, 0, none⟩) us.length us.length) ∧ Below w.heap.size w w' := by
  obtain ⟨p, c, rfl, -⟩ := (show ListAt B w 3 (LitAt B m w) v us from h).form
  have H := Lib.hid h
  clear h
  go_enter Try.func6, Try.ntmps6
  go_wp2_with fail
  refine (toLiteralS_any m us _ _ (ClsAt.below (by (repeat (first | with_reducible exact Below.refl _ _ | with_reducible assumption | with_reducible refine Below.al ?_ _ | with_reducible refine Below.sc ?_ (by first | exact Nat.le_refl _ | (simp; done) | (simp; omega)) _ | assumption | exact Below.refl _ _ | refine Below.dr ?_ | refine Below.drN ?_ _ | refine Below.step ?_ (by assumption)))) H.out) hw).mono ?_
  rintro e w1 ⟨g, rfl, hu, hb1⟩
  have ⟨cw1, fw1⟩ := bcell hb1
  have qw1 := hb1.size
  (try simp at qw1)
  (try have zw1w := bsz (show w.heap.size < w1.heap.size by omega))
  have HU := Lib.hid (show ClsAt _ m w1 us _ from hu)
  clear hu
  have y1 := bsz (show w.heap.size + 1 < w1.heap.size by omega)
  have y2 := bsz (show w.heap.size + 2 < w1.heap.size by omega)
  go_wp2
  refine bodyPost_ret (v := .agg #[.slice (some ⟨g, 0, none⟩) us.length us.length]) (by simp only [results, Try.results6]; go_simp) rfl ?_
  refine ⟨_, rfl, ?_, by (repeat (first | with_reducible exact Below.refl _ _ | with_reducible assumption | with_reducible refine Below.al ?_ _ | with_reducible refine Below.sc ?_ (by first | exact Nat.le_refl _ | (simp; done) | (simp; omega)) _ | assumption | exact Below.refl _ _ | refine Below.dr ?_ | refine Below.drN ?_ _ | refine Below.step ?_ (by assumption)))⟩
  exact HU.out.mono (by ((repeat' (first | with_reducible exact SameOn.refl _ _ | with_reducible refine SameOn.sc ?_ ?_ _ | with_reducible refine SameOn.al ?_ ?_ _ | with_reducible refine SameOn.be ?_ ?_ (by with_reducible assumption))) <;> (first | (intro b hb; simp at hb ⊢; omega) | exact Nat.le_refl _ | (simp; done) | (simp; omega) | omega))) (fun b hb => by simp at hb; omega) (Nat.le_refl _)
end Go.Proofs.Ytdklemmincejpaa
namespace Go.Proofs.Ytdklemmincejpaa
open Go.RowKit
theorem cellC {w w' : World} {a : Addr} {v : Value} (hb : Below w.heap.size w w') (h : w.cell? a = some v) : w'.cell? a = some v := (hb.cell (World.block_lt_of_cell? w _ h)).trans h
theorem capEq {g : Option Addr} {n : Nat} : ∀ p d, (Value.slice g n n) = .slice p n d → n ≤ d := fun p d h => by injection h with _ _ h; omega
set_option maxRecDepth 100000 in
set_option maxHeartbeats 1600000 in
theorem exactCTE {B : Nat → Prop} (m : Nat) (c : List Lit3) (v : Value) (w : World) (h : ClsAt B m w c v) :
    Calls Try.prog 3 #[.agg #[v]] w fun e w' => e = .returned (.bool true) ∧ Below w.heap.size w w' := by
  obtain ⟨p, d, rfl, -⟩ := (show ListAt B w 3 (LitAt B m w) v c from h).form
  have H := Lib.hid h
  clear h
  by_cases hw : c.length + Cls.wts c ≤ 1048576
  · have HR := Lib.hid (show szR 1048576 (c.length + Cls.wts c) = 1048576 - (c.length + Cls.wts c : Nat) from if_pos (by omega))
    have hw0 : ¬ (1048576 - ((c.length : Int) + (Cls.wts c : Nat)) < 0) := by omega
    have hw2 : Cls.wts c ≤ 1048576 := by omega
    go_enter Try.func3, Try.ntmps3
    go_wp2_with fail
    refine (szClause_any m c _ _ _ (ClsAt.below (by (repeat (first | with_reducible exact Below.refl _ _ | with_reducible assumption | with_reducible refine Below.al ?_ _ | with_reducible refine Below.sc ?_ (by first | exact Nat.le_refl _ | (simp; done) | (simp; omega)) _ | assumption | exact Below.refl _ _ | refine Below.dr ?_ | refine Below.drN ?_ _ | refine Below.step ?_ (by assumption)))) H.out) (by omega) (by omega)).mono ?_
    rintro e w1 ⟨rfl, hb1⟩
    have ⟨cw1, fw1⟩ := bcell hb1
    have qw1 := hb1.size
    (try simp at qw1)
    (try have zw1w := bsz (show w.heap.size < w1.heap.size by omega))
    rw [HR.out]
    go_wp2_with fail
    refine (toClause_any m c _ _ (ClsAt.below (by (repeat (first | with_reducible exact Below.refl _ _ | with_reducible assumption | with_reducible refine Below.al ?_ _ | with_reducible refine Below.sc ?_ (by first | exact Nat.le_refl _ | (simp; done) | (simp; omega)) _ | assumption | exact Below.refl _ _ | refine Below.dr ?_ | refine Below.drN ?_ _ | refine Below.step ?_ (by assumption)))) H.out) hw).mono ?_
    rintro e w2 ⟨g1, rfl, hu, hb2⟩
    have ⟨cw2, fw2⟩ := bcell hb2
    have qw2 := hb2.size
    (try simp at qw2)
    (try have zw2w := bsz (show w.heap.size < w2.heap.size by omega))
    (try have zw2w1 := bsz (show w1.heap.size < w2.heap.size by omega))
    have HU := Lib.hid hu
    clear hu
    go_wp2_with fail
    refine (specCTE_any m c _ _ (ClsAt.below (by (repeat (first | with_reducible exact Below.refl _ _ | with_reducible assumption | with_reducible refine Below.al ?_ _ | with_reducible refine Below.sc ?_ (by first | exact Nat.le_refl _ | (simp; done) | (simp; omega)) _ | assumption | exact Below.refl _ _ | refine Below.dr ?_ | refine Below.drN ?_ _ | refine Below.step ?_ (by assumption)))) HU.out) hw2).mono ?_
    rintro e w3 ⟨rfl, hb3⟩
    have ⟨cw3, fw3⟩ := bcell hb3
    have qw3 := hb3.size
    (try simp at qw3)
    (try have zw3w := bsz (show w.heap.size < w3.heap.size by omega))
    (try have zw3w1 := bsz (show w1.heap.size < w3.heap.size by omega))
    (try have zw3w2 := bsz (show w2.heap.size < w3.heap.size by omega))
    go_wp2_with fail
    refine (toClause_any m c _ _ (ClsAt.below (by (repeat (first | with_reducible exact Below.refl _ _ | with_reducible assumption | with_reducible refine Below.al ?_ _ | with_reducible refine Below.sc ?_ (by first | exact Nat.le_refl _ | (simp; done) | (simp; omega)) _ | assumption | exact Below.refl _ _ | refine Below.dr ?_ | refine Below.drN ?_ _ | refine Below.step ?_ (by assumption)))) H.out) hw).mono ?_
    rintro e w4 ⟨g2, rfl, hu2, hb4⟩
    have ⟨cw4, fw4⟩ := bcell hb4
    have qw4 := hb4.size
    (try simp at qw4)
    (try have zw4w := bsz (show w.heap.size < w4.heap.size by omega))
    (try have zw4w1 := bsz (show w1.heap.size < w4.heap.size by omega))
    (try have zw4w2 := bsz (show w2.heap.size < w4.heap.size by omega))
    (try have zw4w3 := bsz (show w3.heap.size < w4.heap.size by omega))
    have HU2 := Lib.hid hu2
    clear hu2
    go_wp2_with fail
    refine (implCTE_any m c _ _ (ClsAt.below (by (repeat (first | with_reducible exact Below.refl _ _ | with_reducible assumption | with_reducible refine Below.al ?_ _ | with_reducible refine Below.sc ?_ (by first | exact Nat.le_refl _ | (simp; done) | (simp; omega)) _ | assumption | exact Below.refl _ _ | refine Below.dr ?_ | refine Below.drN ?_ _ | refine Below.step ?_ (by assumption)))) HU2.out) capEq hw2).mono ?_
    rintro e w5 ⟨rfl, hb5⟩
    have ⟨cw5, fw5⟩ := bcell hb5
    have qw5 := hb5.size
    (try simp at qw5)
    (try have zw5w := bsz (show w.heap.size < w5.heap.size by omega))
    (try have zw5w1 := bsz (show w1.heap.size < w5.heap.size by omega))
    (try have zw5w2 := bsz (show w2.heap.size < w5.heap.size by omega))
    (try have zw5w3 := bsz (show w3.heap.size < w5.heap.size by omega))
    (try have zw5w4 := bsz (show w4.heap.size < w5.heap.size by omega))
    go_wp2
    have ha0 : w5.cell? ⟨w.heap.size, 0, none⟩ = some (.slice p c.length d) := by go_simp
    have hx0 : w5.cell? ⟨w4.heap.size, 0, none⟩ = some (.slice (some ⟨g2, 0, none⟩) c.length c.length) := by go_simp
    go_region_held3 (fun w' => w'.cell? ⟨w.heap.size, 0, none⟩ = some (.slice p c.length d) ∧ w'.cell? ⟨w4.heap.size, 0, none⟩ = some (.slice (some ⟨g2, 0, none⟩) c.length c.length)) (first | go_keep | ((refine ⟨?_, ?_⟩ <;> first | exact cellC hb7 (cellC hb6 (by assumption)) | exact cellC hb7 (by assumption) | exact cellC hb6 (by assumption)))) (first | (go_at_call 6; refine (toClause_any m c _ _ (ClsAt.below (by (repeat (first | with_reducible exact Below.refl _ _ | with_reducible assumption | with_reducible refine Below.al ?_ _ | with_reducible refine Below.sc ?_ (by first | exact Nat.le_refl _ | (simp; done) | (simp; omega)) _ | assumption | exact Below.refl _ _ | refine Below.dr ?_ | refine Below.drN ?_ _ | refine Below.step ?_ (by assumption)))) H.out) hw).mono ?_; rintro e w6 ⟨g3, rfl, hu3, hb6⟩; have HU3 := Lib.hid hu3; clear hu3; have ⟨c6, f6⟩ := bcell hb6; have q6 := hb6.size; (try simp at q6); have z6 := bsz (show w.heap.size < w6.heap.size by omega); have z63 := bsz (show w3.heap.size < w6.heap.size by omega); have z64 := bsz (show w4.heap.size < w6.heap.size by omega)) | (go_at_call 8; refine (eqClause_same m c _ _ _ (ClsAt.below (by (repeat (first | with_reducible exact Below.refl _ _ | with_reducible assumption | with_reducible refine Below.al ?_ _ | with_reducible refine Below.sc ?_ (by first | exact Nat.le_refl _ | (simp; done) | (simp; omega)) _ | assumption | exact Below.refl _ _ | refine Below.dr ?_ | refine Below.drN ?_ _ | refine Below.step ?_ (by assumption)))) HU2.out) (ClsAt.below (by (repeat (first | with_reducible exact Below.refl _ _ | with_reducible assumption | with_reducible refine Below.al ?_ _ | with_reducible refine Below.sc ?_ (by first | exact Nat.le_refl _ | (simp; done) | (simp; omega)) _ | assumption | exact Below.refl _ _ | refine Below.dr ?_ | refine Below.drN ?_ _ | refine Below.step ?_ (by assumption)))) HU3.out)).mono ?_; rintro e w7 ⟨rfl, hb7⟩))
    go_wp2
    go_ret
    exact ⟨rfl, by (repeat (first | with_reducible exact Below.refl _ _ | with_reducible assumption | with_reducible refine Below.al ?_ _ | with_reducible refine Below.sc ?_ (by first | exact Nat.le_refl _ | (simp; done) | (simp; omega)) _ | assumption | exact Below.refl _ _ | refine Below.dr ?_ | refine Below.drN ?_ _ | refine Below.step ?_ (by assumption)))⟩
  · have HR := Lib.hid (show szR 1048576 (c.length + Cls.wts c) = -1 from if_neg (by omega))
    go_enter Try.func3, Try.ntmps3
    go_wp2_with fail
    refine (szClause_any m c _ _ _ (ClsAt.below (by (repeat (first | with_reducible exact Below.refl _ _ | with_reducible assumption | with_reducible refine Below.al ?_ _ | with_reducible refine Below.sc ?_ (by first | exact Nat.le_refl _ | (simp; done) | (simp; omega)) _ | assumption | exact Below.refl _ _ | refine Below.dr ?_ | refine Below.drN ?_ _ | refine Below.step ?_ (by assumption)))) H.out) (by omega) (by omega)).mono ?_
    rintro e w1 ⟨rfl, hb1⟩
    have ⟨cw1, fw1⟩ := bcell hb1
    have qw1 := hb1.size
    (try simp at qw1)
    (try have zw1w := bsz (show w.heap.size < w1.heap.size by omega))
    rw [HR.out]
    go_wp2
    go_ret
    exact ⟨rfl, by (repeat (first | with_reducible exact Below.refl _ _ | with_reducible assumption | with_reducible refine Below.al ?_ _ | with_reducible refine Below.sc ?_ (by first | exact Nat.le_refl _ | (simp; done) | (simp; omega)) _ | assumption | exact Below.refl _ _ | refine Below.dr ?_ | refine Below.drN ?_ _ | refine Below.step ?_ (by assumption)))⟩
end Go.Proofs.Ytdklemmincejpaa
namespace Go.Proofs.Ytdklemmincejpaa
open Go.ChangeShapes Go.WideShapes Go.ChangeAt Go.RowKit Go.Joins
theorem own : ownKnob Try.prog.godebug = none := by kernel_rfl
theorem laidOut : laidOutB Try.prog = true := by kernel_rfl
theorem trodAll_stays {H : Type} {enc : TypeId × Value → H} {P : Program} (hl : laidOutB P = true) {W W' : World} {sp : Nat → Bool} : ∀ (ts : List TypeId) (vs : List Value) (ds : List (DataW H)) (ps : List MemPlace),
    (∀ t ∈ ts, P.readableRec t = true ∧ t < P.types.size) → DataW.TrodAll enc P W 0 (fun _ => true) true ts vs ds ps → (∀ x ∈ ps, W.sameAt W' x) → (∀ x ∈ ps, sp x.block = true) → DataW.TrodAll enc P W' 0 sp true ts vs ds ps
  | [], vs, ds, ps, _, h, _, _ => by
    cases vs <;> cases ds <;> simp_all [DataW.TrodAll]
  | t :: ts, [], ds, ps, _, h, _, _ => by simp [DataW.TrodAll] at h
  | t :: ts, v :: vs, [], ps, _, h, _, _ => by simp [DataW.TrodAll] at h
  | t :: ts, v :: vs, d :: ds, ps, ht, h, hs, hp => by
    obtain ⟨p, q, h1, h2, rfl⟩ := h
    exact ⟨p, q, WideElems.Trod_stays hl (ht t (by simp)).1 (ht t (by simp)).2 h1 (fun x hx => hs x (by simp [hx])) (fun x hx => hp x (by simp [hx])),
      trodAll_stays hl ts vs ds q (fun t h => ht t (by simp [h])) h2 (fun x hx => hs x (by simp [hx])) (fun x hx => hp x (by simp [hx])), rfl⟩
/-- The row's last step, the same for every law: it answers true, nothing that was there has turned. -/
theorem close_true {H : Type} {enc : TypeId × Value → H} {f : Func} {s : ChangeSpec} {W W' : World} {args : Array Value} {ds gs : List (DataW H)} {before : List MemPlace}
    (hW : DataW.Whole enc Try.prog f.params.toList s.vars false W args.toList ds gs before) (hv : s.vars = []) (hr : f.resultTypes = #[4])
    (hp : f.params.toList.all (fun t => Try.prog.readableRec t && decide (t < Try.prog.types.size)) = true) (hfn : s.fn H ds = { results := [.lit (.bool true)], args := ds }) (hb : Below W.heap.size W W') :
    s.post enc Try.prog f false true false false W args (.bool true) W' := by
  have hW2 := hW
  have hlt : ∀ p ∈ before, p.block < W.heap.size := fun p hp => hW.lt p hp
  obtain ⟨p, q, hA, hV, rfl, _, _⟩ := hW2
  rw [hv] at hV
  obtain ⟨rfl, rfl⟩ := trodVars_none hV
  rw [List.append_nil] at hlt
  refine ⟨ds, [], p ++ [], [], p, [], hW, ?_, ?_, ?_, hb.frame _, fun h => by cases h⟩
  · rw [List.append_nil, hfn, hr]; exact trodAll_mk1 (shut_bool Try.underlying4 true)
  · rw [List.append_nil, hfn]
    refine trodAll_stays laidOut _ _ _ _ (fun t ht => ?_) hA (fun x hx => hb.same (hlt x hx)) (fun x hx => by simpa using hlt x hx)
    have := List.all_eq_true.1 hp t ht
    simpa using this
  · rw [List.append_nil, hfn, hv]; rfl
end Go.Proofs.Ytdklemmincejpaa
