/- Reading a unit's text: plain laws of both sides. No conditions; no program is walked. -/
import Derived.Laws.OwnMore
import Derived.Test.YtkgfanajgdelcaaGreatDoorLbPart1
import Derived.Test.YtkgfanajgdelcaaGreatDoorLbPart4
import Derived.Test.YtkgfanajgdelcaaGreatDoorLbPart10
import Derived.Test.YtkgfanajgdelcaaGreatDoorLbPart11
namespace Go.Proofs.YtkgfanajgdelcaaGreatDoor
open Go.RowKit
def unitOf (l : List Un) (x : ByteArray) : Bool := libGood l && (placeU l x).isSome
def hashV (l : List Un) (x : ByteArray) : Int := if unitOf l x then hashU l x else 0
theorem libGood_parts {l : List Un} (h : libGood l = true) : Dist l ∧ (ordL l).length = l.length ∧ ∀ u ∈ l, u.good = true := by
  rw [libGood, Bool.and_eq_true, Bool.and_eq_true] at h
  exact ⟨unitsF_dist l none h.1.1, of_decide_eq_true h.2, unitsF_good l none h.1.1⟩
theorem place_mem {l : List Un} {x : ByteArray} (h : (placeU l x).isSome = true) : ∃ u ∈ l, u.name = x := by
  cases hf : findU l x with
  | none => rw [place_none.2 hf] at h; cases h
  | some u => exact ⟨u, findU_some hf⟩
theorem unitOf_parts {l : List Un} {x : ByteArray} (h : unitOf l x = true) : Dist l ∧ (ordL l).length = l.length ∧ x ∈ ordL l ∧ (ordL l).idxOf x < l.length := by
  rw [unitOf, Bool.and_eq_true] at h
  obtain ⟨h1, h2, h3⟩ := libGood_parts h.1
  obtain ⟨u, hu, rfl⟩ := place_mem h.2
  have := full_all h2 u hu
  exact ⟨h1, h2, this, idx_lt h2 this⟩
set_option maxRecDepth 100000 in
set_option maxHeartbeats 800000 in
theorem isUnitOf_any {B : Nat → Prop} (l : List Un) (va : Value) (x : ByteArray) (w : World) (h : UnsAt B w va l) (hw : l.length + wtU l ≤ 1048576) :
    Calls Tryz.prog 35 #[va, .string x] w fun e w' => e = .returned (.bool (unitOf l x)) ∧ Below w.heap.size w w' := by
  obtain ⟨p, c, rfl, hlen⟩ := h.form
  have H := Lib.hid h
  have HU := Lib.hid (show unitOf l x = (libGood l && (placeU l x).isSome) from rfl)
  clear h
  go_enter Tryz.func35, Tryz.ntmps35
  go_wp2_with fail
  refine (implLib_any l _ _ (H.out.below (by (repeat (first | with_reducible exact Below.refl _ _ | with_reducible assumption | with_reducible refine Below.al ?_ _ | with_reducible refine Below.sc ?_ (by first | exact Nat.le_refl _ | (simp; done) | (simp; omega)) _ | assumption | exact Below.refl _ _ | refine Below.dr ?_ | refine Below.drN ?_ _ | refine Below.step ?_ (by assumption))))) hw).mono ?_
  rintro e w1 ⟨rfl, hb1⟩
  have ⟨cw1, fw1⟩ := bcell hb1
  have qw1 := hb1.size
  (try simp at qw1)
  (try have zw1w := bsz (show w.heap.size < w1.heap.size by omega))
  cases hg : libGood l
  · have HG := Lib.hid hg
    go_wp2
    go_ret
    exact ⟨ret_bool (by rw [HU.out, HG.out]; rfl), by (repeat (first | with_reducible exact Below.refl _ _ | with_reducible assumption | with_reducible refine Below.al ?_ _ | with_reducible refine Below.sc ?_ (by first | exact Nat.le_refl _ | (simp; done) | (simp; omega)) _ | assumption | exact Below.refl _ _ | refine Below.dr ?_ | refine Below.drN ?_ _ | refine Below.step ?_ (by assumption)))⟩
  · have HG := Lib.hid hg
    go_wp2_with fail
    refine (unitAt_any l _ x _ (H.out.below (by (repeat (first | with_reducible exact Below.refl _ _ | with_reducible assumption | with_reducible refine Below.al ?_ _ | with_reducible refine Below.sc ?_ (by first | exact Nat.le_refl _ | (simp; done) | (simp; omega)) _ | assumption | exact Below.refl _ _ | refine Below.dr ?_ | refine Below.drN ?_ _ | refine Below.step ?_ (by assumption)))))).mono ?_
    rintro e w2 ⟨r, rfl, hr, hb2⟩
    have HR := Lib.hid (show decide (0 ≤ r) = unitOf l x by rw [hr, atI_neg, HU.out, HG.out, Bool.true_and])
    clear hr
    go_wp2
    go_ret
    exact ⟨ret_bool HR.out, by (repeat (first | with_reducible exact Below.refl _ _ | with_reducible assumption | with_reducible refine Below.al ?_ _ | with_reducible refine Below.sc ?_ (by first | exact Nat.le_refl _ | (simp; done) | (simp; omega)) _ | assumption | exact Below.refl _ _ | refine Below.dr ?_ | refine Below.drN ?_ _ | refine Below.step ?_ (by assumption)))⟩
set_option maxRecDepth 100000 in
set_option maxHeartbeats 800000 in
theorem implUH_any (l : List Un) (n : Nat) (va : Value) (x : ByteArray) (w : World) (h : UnsAt (fun b => b < n) w va l) (hn : n ≤ w.heap.size) (hE : Env w) (hw : l.length + wtU l ≤ 1048576) :
    Calls Tryz.prog 11 #[va, .string x] w fun e w' => e = .returned (.tuple #[.int .i64 (hashV l x), .bool (unitOf l x)]) ∧ Below w.heap.size w w' := by
  obtain ⟨p, c, rfl, hlen⟩ := h.form
  have H := Lib.hid h
  have HE := Lib.hid hE
  clear h hE
  cases hg : unitOf l x
  · have HG := Lib.hid hg
    go_enter Tryz.func11, Tryz.ntmps11
    go_wp2_with fail
    refine (isUnitOf_any l _ x _ (H.out.below (by (repeat (first | with_reducible exact Below.refl _ _ | with_reducible assumption | with_reducible refine Below.al ?_ _ | with_reducible refine Below.sc ?_ (by first | exact Nat.le_refl _ | (simp; done) | (simp; omega)) _ | assumption | exact Below.refl _ _ | refine Below.dr ?_ | refine Below.drN ?_ _ | refine Below.step ?_ (by assumption))))) hw).mono ?_
    rintro e w1 ⟨rfl, hb1⟩
    have ⟨cw1, fw1⟩ := bcell hb1
    have qw1 := hb1.size
    (try simp at qw1)
    (try have zw1w := bsz (show w.heap.size < w1.heap.size by omega))
    rw [HG.out]
    go_wp2
    go_ret2
    exact ⟨by rw [hashV, HG.out]; rfl, by (repeat (first | with_reducible exact Below.refl _ _ | with_reducible assumption | with_reducible refine Below.al ?_ _ | with_reducible refine Below.sc ?_ (by first | exact Nat.le_refl _ | (simp; done) | (simp; omega)) _ | assumption | exact Below.refl _ _ | refine Below.dr ?_ | refine Below.drN ?_ _ | refine Below.step ?_ (by assumption)))⟩
  · have HG := Lib.hid hg
    obtain ⟨h1, h2, h3, h4⟩ := unitOf_parts hg
    go_enter Tryz.func11, Tryz.ntmps11
    go_wp2_with fail
    refine (isUnitOf_any l _ x _ (H.out.below (by (repeat (first | with_reducible exact Below.refl _ _ | with_reducible assumption | with_reducible refine Below.al ?_ _ | with_reducible refine Below.sc ?_ (by first | exact Nat.le_refl _ | (simp; done) | (simp; omega)) _ | assumption | exact Below.refl _ _ | refine Below.dr ?_ | refine Below.drN ?_ _ | refine Below.step ?_ (by assumption))))) hw).mono ?_
    rintro e w1 ⟨rfl, hb1⟩
    have ⟨cw1, fw1⟩ := bcell hb1
    have qw1 := hb1.size
    (try simp at qw1)
    (try have zw1w := bsz (show w.heap.size < w1.heap.size by omega))
    rw [HG.out]
    go_wp2_with fail
    refine (hashOf_any l n h1 hw l.length x _ _ h3 h4 (H.out.below (by (repeat (first | with_reducible exact Below.refl _ _ | with_reducible assumption | with_reducible refine Below.al ?_ _ | with_reducible refine Below.sc ?_ (by first | exact Nat.le_refl _ | (simp; done) | (simp; omega)) _ | assumption | exact Below.refl _ _ | refine Below.dr ?_ | refine Below.drN ?_ _ | refine Below.step ?_ (by assumption))))) (by omega) (HE.out.below (by (repeat (first | with_reducible exact Below.refl _ _ | with_reducible assumption | with_reducible refine Below.al ?_ _ | with_reducible refine Below.sc ?_ (by first | exact Nat.le_refl _ | (simp; done) | (simp; omega)) _ | assumption | exact Below.refl _ _ | refine Below.dr ?_ | refine Below.drN ?_ _ | refine Below.step ?_ (by assumption)))))).mono ?_
    rintro e w2 ⟨rfl, hb2⟩
    have ⟨cw2, fw2⟩ := bcell hb2
    have qw2 := hb2.size
    (try simp at qw2)
    (try have zw2w := bsz (show w.heap.size < w2.heap.size by omega))
    (try have zw2w1 := bsz (show w1.heap.size < w2.heap.size by omega))
    go_wp2
    go_ret2
    exact ⟨by rw [hashV, HG.out, if_pos rfl]; rfl, by (repeat (first | with_reducible exact Below.refl _ _ | with_reducible assumption | with_reducible refine Below.al ?_ _ | with_reducible refine Below.sc ?_ (by first | exact Nat.le_refl _ | (simp; done) | (simp; omega)) _ | assumption | exact Below.refl _ _ | refine Below.dr ?_ | refine Below.drN ?_ _ | refine Below.step ?_ (by assumption)))⟩
end Go.Proofs.YtkgfanajgdelcaaGreatDoor
namespace Go.Proofs.YtkgfanajgdelcaaGreatDoor
open Go.RowKit
theorem Gr.same {e : TypeId} {size base n : Nat} {W wr : World} {v0 v : Value} {vals : List Value} (h : Gr e size W v0 base n vals v wr) {B : Nat → Prop} (hB : ∀ b, B b → v0.ownBlock ≠ some b) : SameOn B W wr := fun b hb hlt => h.block hlt (hB b hb)
def allAx (l : List Un) : List ByteArray := l.flatMap Un.axs
theorem allAx_len : ∀ l : List Un, (allAx l).length ≤ wtU l
  | [] => by simp [allAx]
  | u :: l => by
    have := allAx_len l
    rw [allAx] at this
    rw [allAx, List.flatMap_cons, List.length_append, wtU, Un.wt]; omega
theorem allAx_size {l : List Un} {s : ByteArray} (h : s ∈ allAx l) : s.size ≤ wtU l := by
  obtain ⟨u, hu, hs⟩ := List.mem_flatMap.1 h
  have h1 := wtU_le l u hu
  have h2 := wtS_le u.axs s hs
  rw [Un.wt] at h1; omega
theorem axsOf_in {l : List Un} {x : ByteArray} : ∀ z ∈ axsOf l x, z ∈ allAx l := by
  intro z hz
  rw [axsOf] at hz
  cases hf : findU l x with
  | none => rw [hf] at hz; cases hz
  | some u => rw [hf] at hz; exact List.mem_flatMap.2 ⟨u, (findU_some hf).1, hz⟩
theorem GoodS.nil (l : List ByteArray) : GoodS l [] := ⟨List.nodup_nil, by simp⟩
theorem visF_good (l : List Un) (U : List ByteArray) : ∀ R : List ByteArray, GoodS (allAx l) (visF l R U) := by
  have key : ∀ (R out : List ByteArray), GoodS (allAx l) out → GoodS (allAx l) (R.foldl (fun out y => if inS U y then addAll out (axsOf l y) else out) out) := by
    intro R
    induction R with
    | nil => intro out h; exact h
    | cons y R ih =>
      intro out h
      rw [List.foldl_cons]
      refine ih _ ?_
      split
      · exact h.addAll axsOf_in
      · exact h
  exact fun R => key R [] (GoodS.nil _)
theorem visF_take {l : List Un} {R U : List ByteArray} {k : Nat} (h : k < R.length) : visF l (R.take (k + 1)) U = if inS U R[k] then addAll (visF l (R.take k) U) (axsOf l R[k]) else visF l (R.take k) U := by
  rw [List.take_succ_eq_append_getElem h, visF, List.foldl_append]; rfl
def visV (l : List Un) (x : ByteArray) : List ByteArray := if unitOf l x then visL l x else []
end Go.Proofs.YtkgfanajgdelcaaGreatDoor
namespace Go.Proofs.YtkgfanajgdelcaaGreatDoor
open Go.RowKit
def i64B (n : Int) : Prop := -9223372036854775808 ≤ n ∧ n ≤ 9223372036854775807
def IntAt (n : Int) (cs : List Value) : Prop := cs = [.int .i64 n] ∧ i64B n
def IntsAt (B : Nat → Prop) (w : World) (v : Value) (xs : List Int) : Prop := ListAt B w 1 IntAt v xs
theorem IntsAt.mono {B B' : Nat → Prop} {w w' : World} {v : Value} {xs : List Int} (hs : SameOn B w w') (hB : ∀ b, B b → B' b) (h : IntsAt B w v xs) : IntsAt B' w' v xs := ListAt.mono h hs hB (fun _ _ _ h => h)
theorem IntsAt.below {B : Nat → Prop} {w w' : World} {v : Value} {xs : List Int} (hb : Below w.heap.size w w') (h : IntsAt B w v xs) : IntsAt B w' v xs := h.mono (SameOn.below hb) (fun _ h => h)
theorem IntsAt.form {B : Nat → Prop} {w : World} {v : Value} {xs : List Int} (h : IntsAt B w v xs) : ∃ p c, v = .slice p xs.length c ∧ xs.length ≤ maxLen := ListAt.form h
theorem IntsAt.at_ {B : Nat → Prop} {w : World} {p : Option Addr} {n c : Nat} {xs : List Int} (h : IntsAt B w (.slice p n c) xs) {i : Nat} (hi : i < xs.length) : ∃ b o, p = some ⟨b, o, none⟩ ∧ B b ∧ w.cell? ⟨b, o + i, none⟩ = some (.int .i64 xs[i]) ∧ i64B xs[i] := by
  obtain ⟨b, o, h1, h2, x, h3, h4, h5⟩ := ListAt.at1 h hi
  simp only [List.cons.injEq, and_true] at h4
  subst h4
  exact ⟨b, o, h1, h2, h3, h5⟩
def IntOwn (e : TypeId) (S : Nat → Prop) (w : World) (us : List Int) (v : Value) : Prop := OwnRow S w e 1 (fun _ s cs => IntAt s cs) v us
theorem IntOwn.at_ {e : TypeId} {S : Nat → Prop} {w : World} {us : List Int} {v : Value} (h : IntOwn e S w us v) : IntsAt S w v us := OwnRow.listAt (by omega) h (fun _ _ _ _ _ hx => hx)
end Go.Proofs.YtkgfanajgdelcaaGreatDoor
namespace Go.Proofs.YtkgfanajgdelcaaGreatDoor
open Go.RowKit
def staleG (l : List Un) : List Un → List Int → List ByteArray
  | u :: us, h :: hs => if hashU l u.name == h then staleG l us hs else u.name :: staleG l us hs
  | _, _ => []
theorem staleG_snoc (l : List Un) : ∀ (us : List Un) (hs : List Int) (u : Un) (h : Int), us.length = hs.length → staleG l (us ++ [u]) (hs ++ [h]) = staleG l us hs ++ (if hashU l u.name == h then [] else [u.name])
  | [], [], u, h, _ => by simp only [List.nil_append, staleG]
  | a :: us, b :: hs, u, h, e => by
    rw [List.cons_append, List.cons_append, staleG, staleG, staleG_snoc l us hs u h (by simpa using e)]
    split <;> simp
  | [], _ :: _, _, _, e => by simp at e
  | _ :: _, [], _, _, e => by simp at e
theorem staleG_take {l : List Un} {hs : List Int} {k : Nat} (hk : k < l.length) (hh : k < hs.length) : staleG l (l.take (k + 1)) (hs.take (k + 1)) = staleG l (l.take k) (hs.take k) ++ (if hashU l l[k].name == hs[k] then [] else [l[k].name]) := by
  rw [List.take_succ_eq_append_getElem hk, List.take_succ_eq_append_getElem hh, staleG_snoc _ _ _ _ _ (by rw [List.length_take, List.length_take]; omega)]
theorem staleG_len (l : List Un) : ∀ (us : List Un) (hs : List Int), (staleG l us hs).length ≤ us.length
  | [], _ => by simp [staleG]
  | _ :: _, [] => by simp [staleG]
  | a :: us, b :: hs => by
    have := staleG_len l us hs
    rw [staleG]; split <;> simp <;> omega
def staleOk (l : List Un) (hs : List Int) : Bool := libGood l && decide (hs.length = l.length)
def staleF (l : List Un) (hs : List Int) : List ByteArray := if staleOk l hs then staleG l l hs else []
set_option maxRecDepth 100000 in
set_option maxHeartbeats 3200000 in
theorem implSU_any {B : Nat → Prop} (l : List Un) (hs : List Int) (n : Nat) (va vh : Value) (w : World) (h : UnsAt (fun b => b < n) w va l) (hh : IntsAt B w vh hs) (hn : n ≤ w.heap.size) (hE : Env w) (hw : l.length + wtU l ≤ 1048576) :
    Calls Tryz.prog 15 #[va, vh] w fun e w' => ∃ v, e = .returned (.tuple #[v, .bool (staleOk l hs)]) ∧ StrOwn 9 (NewB w w') w' (staleF l hs) v ∧ Below w.heap.size w w' := by
  obtain ⟨p, c, rfl, hlen⟩ := h.form
  obtain ⟨q, d, rfl, hlen2⟩ := hh.form
  unfold maxLen at hlen hlen2
  have H := Lib.hid h
  have HH := Lib.hid hh
  have HE := Lib.hid hE
  have HS := Lib.hid (show staleOk l hs = (libGood l && decide (hs.length = l.length)) from rfl)
  clear h hh hE
  cases hg : libGood l
  · have HG := Lib.hid hg
    have HN := Lib.hid (show staleOk l hs = false by rw [HS.out, hg]; rfl)
    go_enter Tryz.func15, Tryz.ntmps15
    go_wp2_with fail
    refine (implLib_any l _ _ (H.out.below (by (repeat (first | with_reducible exact Below.refl _ _ | with_reducible assumption | with_reducible refine Below.al ?_ _ | with_reducible refine Below.sc ?_ (by first | exact Nat.le_refl _ | (simp; done) | (simp; omega)) _ | assumption | exact Below.refl _ _ | refine Below.dr ?_ | refine Below.drN ?_ _ | refine Below.step ?_ (by assumption))))) hw).mono ?_
    rintro e w1 ⟨rfl, hb1⟩
    have ⟨cw1, fw1⟩ := bcell hb1
    have qw1 := hb1.size
    (try simp at qw1)
    (try have zw1w := bsz (show w.heap.size < w1.heap.size by omega))
    rw [HG.out]
    go_wp2
    go_ret2
    exact ⟨_, by rw [HN.out]; rfl, by rw [staleF, HN.out, if_neg (by simp)]; exact OwnRow.nil _ _ _ _ _, by (repeat (first | with_reducible exact Below.refl _ _ | with_reducible assumption | with_reducible refine Below.al ?_ _ | with_reducible refine Below.sc ?_ (by first | exact Nat.le_refl _ | (simp; done) | (simp; omega)) _ | assumption | exact Below.refl _ _ | refine Below.dr ?_ | refine Below.drN ?_ _ | refine Below.step ?_ (by assumption)))⟩
  have HG := Lib.hid hg
  by_cases hle : hs.length = l.length
  case neg =>
    have HN := Lib.hid (show staleOk l hs = false by rw [HS.out, hg, decide_eq_false hle]; rfl)
    have hii : ((hs.length : Int) == (l.length : Int)) = false := by rw [beq_eq_false_iff_ne]; omega
    have hij : ((hs.length : Int) != (l.length : Int)) = true := by rw [bne, hii]; rfl
    go_enter Tryz.func15, Tryz.ntmps15
    go_wp2_with fail
    refine (implLib_any l _ _ (H.out.below (by (repeat (first | with_reducible exact Below.refl _ _ | with_reducible assumption | with_reducible refine Below.al ?_ _ | with_reducible refine Below.sc ?_ (by first | exact Nat.le_refl _ | (simp; done) | (simp; omega)) _ | assumption | exact Below.refl _ _ | refine Below.dr ?_ | refine Below.drN ?_ _ | refine Below.step ?_ (by assumption))))) hw).mono ?_
    rintro e w1 ⟨rfl, hb1⟩
    have ⟨cw1, fw1⟩ := bcell hb1
    have qw1 := hb1.size
    (try simp at qw1)
    (try have zw1w := bsz (show w.heap.size < w1.heap.size by omega))
    rw [HG.out]
    go_wp2
    go_ret2
    exact ⟨_, by rw [HN.out]; rfl, by rw [staleF, HN.out, if_neg (by simp)]; exact OwnRow.nil _ _ _ _ _, by (repeat (first | with_reducible exact Below.refl _ _ | with_reducible assumption | with_reducible refine Below.al ?_ _ | with_reducible refine Below.sc ?_ (by first | exact Nat.le_refl _ | (simp; done) | (simp; omega)) _ | assumption | exact Below.refl _ _ | refine Below.dr ?_ | refine Below.drN ?_ _ | refine Below.step ?_ (by assumption)))⟩
  have HY := Lib.hid (show staleOk l hs = true by rw [HS.out, hg, decide_eq_true hle]; rfl)
  obtain ⟨h1, h2, h3⟩ := libGood_parts hg
  have HAL := Lib.hid (fun u (hu : u ∈ l) => full_all h2 u hu)
  have HIX := Lib.hid (fun x (hx : x ∈ ordL l) => idx_lt h2 hx)
  have HHO := Lib.hid (fun (x : ByteArray) (w' : World) (hx : x ∈ ordL l) (hb : Below w.heap.size w w') => hashOf_any l n h1 hw l.length x (.slice p l.length c) w' hx (idx_lt h2 hx) (H.out.below hb) (by have := hb.size; omega) (HE.out.below hb))
  clear h3
  go_enter Tryz.func15, Tryz.ntmps15
  go_wp2_with fail
  refine (implLib_any l _ _ (H.out.below (by (repeat (first | with_reducible exact Below.refl _ _ | with_reducible assumption | with_reducible refine Below.al ?_ _ | with_reducible refine Below.sc ?_ (by first | exact Nat.le_refl _ | (simp; done) | (simp; omega)) _ | assumption | exact Below.refl _ _ | refine Below.dr ?_ | refine Below.drN ?_ _ | refine Below.step ?_ (by assumption))))) hw).mono ?_
  rintro e w1 ⟨rfl, hb1⟩
  have ⟨cw1, fw1⟩ := bcell hb1
  have qw1 := hb1.size
  (try simp at qw1)
  (try have zw1w := bsz (show w.heap.size < w1.heap.size by omega))
  rw [HG.out, hle]
  go_wp2
  go_loopw [6, 22] (fun o i wr => ∃ k : Nat, k ≤ l.length ∧ i = .int .i64 k ∧ OrdS (staleG l (l.take k) (hs.take k)) o w wr) (fun _ i _ => l.length - (intOf i).toNat)
  case atStart => exact ⟨0, Nat.zero_le _, rfl, own_lower (row_empty w1 w1.heap.size _ 1 (Nat.le_refl _)) (by omega), by simp [staleG], by (repeat (first | with_reducible exact Below.refl _ _ | with_reducible assumption | with_reducible refine Below.al ?_ _ | with_reducible refine Below.sc ?_ (by first | exact Nat.le_refl _ | (simp; done) | (simp; omega)) _ | assumption | exact Below.refl _ _ | refine Below.dr ?_ | refine Below.drN ?_ _ | refine Below.step ?_ (by assumption)))⟩
  case round =>
    obtain ⟨k, hk, rfl, hst⟩ := hrel
    have hb := hst.bel
    have HST := Lib.hid hst
    have hgl := staleG_len l (l.take k) (hs.take k)
    rw [List.length_take] at hgl
    clear hst
    by_cases hlt : k < l.length
    · have hlh : k < hs.length := by omega
      obtain ⟨b, o, rfl, hB, p1, c1, p2, c2, hx0, hx1, hx2, hx3, hx⟩ := (H.out.below hb).at_ hlt
      obtain ⟨b', o', rfl, hB', hy0, -⟩ := (HH.out.below hb).at_ hlh
      have hnsz : l[k].name.size ≤ maxLen := by obtain ⟨_, _, _, h2, _⟩ := hx; exact h2
      have HTK := Lib.hid (staleG_take hlt hlh)
      have hal := HAL.out _ (List.getElem_mem hlt)
      obtain ⟨a, ha⟩ : ∃ a, l[k] = a := ⟨_, rfl⟩
      obtain ⟨z, hz⟩ : ∃ z, hs[k] = z := ⟨_, rfl⟩
      rw [ha] at hx0 hx1 hx2 hx3 hnsz HTK hal
      rw [hz] at hy0 HTK
      clear ha hz hx
      have zb := bsz (World.block_lt_of_cell? _ _ hx0)
      have zb' := bsz (World.block_lt_of_cell? _ _ hy0)
      have hki : (k : Int) < l.length := by omega
      generalize staleG l (l.take k) (hs.take k) = out at *
      go_wp2
      obtain ⟨W, hW⟩ : ∃ W : World, W = wr.alloc (.cells #[.string a.name, .slice p1 a.incs.length c1, .slice p2 a.axs.length c2, .string a.goal] 34) := ⟨_, rfl⟩
      have hbW : Below wr.heap.size wr W := by rw [hW]; exact (Below.refl _ _).alloc (Nat.le_refl _) _
      have hbw := Below.step hb hbW
      have hc0 : W.cell? ⟨wr.heap.size, 0, none⟩ = some (.string a.name) := by rw [hW]; go_simp
      have hyw := (hbW.cell zb'.1).trans hy0
      have HSW := Lib.hid (HST.out.below hbW)
      rw [← hW]
      clear hW HST hx0 hx1 hx2 hx3
      cases hN : (hashU l a.name == z)
      all_goals
        have HN := Lib.hid hN
        have hbn : (hashU l a.name != z) = !(hashU l a.name == z) := rfl
        rw [hN] at hbn
        have hbn2 : (hashF l.length l a.name != z) = _ := hbn
        have hN2 : (hashF l.length l a.name == z) = _ := hN
        clear hbn hN
        obtain ⟨C, HC0⟩ := class_of (InF W.heap.size _ [(⟨wr.heap.size, 0, none⟩, .string a.name), (⟨b', o' + k, none⟩, .int .i64 z)] [] [])
        have HC := Lib.hid HC0
        clear HC0
        refine wp_region_flow (C := C) (by kernel_rfl) (by kernel_rfl) (fun L hL => (HC.out _ _).2 (InF.start (by first | (intro _ hs; cases hs; done) | (simp only [List.forall_mem_cons]; go_simp)) (by first | (intro _ hs; cases hs; done) | (simp only [List.forall_mem_cons]; go_simp)) (by first | (intro _ hs; cases hs; done) | (simp only [List.forall_mem_cons]; go_simp)) (by first | (intro _ hs; cases hs; done) | (simp only [List.forall_mem_cons]; go_simp)) L hL)) ?_
        repeat (first | (apply flow_free rfl; (intro L w' hun hrd hC; have hC := (HC.out _ _).1 hC; have hb' := hC.below; (try have hw' : Below w.heap.size w w' := by first | exact Below.trans (by (repeat (first | with_reducible exact Below.refl _ _ | with_reducible assumption | with_reducible refine Below.al ?_ _ | with_reducible refine Below.sc ?_ (by first | exact Nat.le_refl _ | (simp; done) | (simp; omega)) _ | assumption | exact Below.refl _ _ | refine Below.dr ?_ | refine Below.drN ?_ _ | refine Below.step ?_ (by assumption)))) hb' | ((repeat (first | with_reducible exact Below.refl _ _ | with_reducible assumption | with_reducible refine Below.al ?_ _ | with_reducible refine Below.sc ?_ (by first | exact Nat.le_refl _ | (simp; done) | (simp; omega)) _ | assumption | exact Below.refl _ _ | refine Below.dr ?_ | refine Below.drN ?_ _ | refine Below.step ?_ (by assumption))); done)); have hf' := hC.cell; (try simp only [List.forall_mem_cons] at hf'); go_simp; first | exact ⟨(HC.out _ _).2 (hC.skip _ (by rfl)), rfl⟩ | (rw [if_neg]; (exact ⟨(HC.out _ _).2 (hC.skip _ (by rfl)), rfl⟩); omega) | (go_at_call 36; refine (HHO.out a.name _ hal hw').mono ?_; rintro e w1 ⟨rfl, hb1⟩; exact ⟨rfl, (HC.out _ _).2 ((hC.next (by first | (simp; done) | (simp; omega) | omega) hb1).skip _ (by rfl))⟩)); go_simp) | (apply flow_yes; (case hw => go_simp); (intro L w' hun hrd hC; have hC := (HC.out _ _).1 hC; have hb' := hC.below; (try have hw' : Below w.heap.size w w' := by first | exact Below.trans (by (repeat (first | with_reducible exact Below.refl _ _ | with_reducible assumption | with_reducible refine Below.al ?_ _ | with_reducible refine Below.sc ?_ (by first | exact Nat.le_refl _ | (simp; done) | (simp; omega)) _ | assumption | exact Below.refl _ _ | refine Below.dr ?_ | refine Below.drN ?_ _ | refine Below.step ?_ (by assumption)))) hb' | ((repeat (first | with_reducible exact Below.refl _ _ | with_reducible assumption | with_reducible refine Below.al ?_ _ | with_reducible refine Below.sc ?_ (by first | exact Nat.le_refl _ | (simp; done) | (simp; omega)) _ | assumption | exact Below.refl _ _ | refine Below.dr ?_ | refine Below.drN ?_ _ | refine Below.step ?_ (by assumption))); done)); have hf' := hC.cell; (try simp only [List.forall_mem_cons] at hf'); go_simp; first | exact ⟨(HC.out _ _).2 (hC.skip _ (by rfl)), rfl⟩ | (rw [if_neg]; (exact ⟨(HC.out _ _).2 (hC.skip _ (by rfl)), rfl⟩); omega) | (go_at_call 36; refine (HHO.out a.name _ hal hw').mono ?_; rintro e w1 ⟨rfl, hb1⟩; exact ⟨rfl, (HC.out _ _).2 ((hC.next (by first | (simp; done) | (simp; omega) | omega) hb1).skip _ (by rfl))⟩)); go_simp) | (apply flow_no; (case hw => (go_simp; try (intro hh; cases hh))); (intro L w' _ _ hC; exact (HC.out _ _).2 (((HC.out _ _).1 hC).skip _ (by rfl))); go_simp))
        refine flow_nil ?_
        intro L wz hL hz
        have hz := (HC.out _ _).1 hz
        have hbz := hz.below
        have hcz := hz.cell
        try simp only [List.forall_mem_cons] at hcz
        have hdz := hz.done
        try simp only [List.forall_mem_cons] at hdz
        (try have hwz : Below w.heap.size w wz := by first | exact Below.trans (by (repeat (first | with_reducible exact Below.refl _ _ | with_reducible assumption | with_reducible refine Below.al ?_ _ | with_reducible refine Below.sc ?_ (by first | exact Nat.le_refl _ | (simp; done) | (simp; omega)) _ | assumption | exact Below.refl _ _ | refine Below.dr ?_ | refine Below.drN ?_ _ | refine Below.step ?_ (by assumption)))) hbz | ((repeat (first | with_reducible exact Below.refl _ _ | with_reducible assumption | with_reducible refine Below.al ?_ _ | with_reducible refine Below.sc ?_ (by first | exact Nat.le_refl _ | (simp; done) | (simp; omega)) _ | assumption | exact Below.refl _ _ | refine Below.dr ?_ | refine Below.drN ?_ _ | refine Below.step ?_ (by assumption))); done))
        have HS1 := Lib.hid (HSW.out.below hbz)
      · go_wp2_with (at_builtin; refine wpList_app1 rfl (.tmp 36) (.tmp 39) _ rfl w.heap.size 9 1 16 elemStr _ _ _ rfl wz #[.string a.name] rfl _ (by simp) rfl HS1.out.row rfl (by simp [Value.oneCell']) (by omega) (by unfold maxLen; omega) (hwz.size) ?_; intro v1 w2 hown1 hg1 hnr1 hlt1)
        obtain ⟨q2, k2, rfl⟩ := own_form hown1 (Nat.succ_pos _)
        go_wp2
        refine ⟨⟨k + 1, by omega, by go_num, ?_⟩, by simp [intOf]; omega⟩
        rw [HTK.out, HN.out, if_neg (by simp)]
        refine ⟨by rw [List.length_append, strW_snoc]; exact hown1, ?_, hwz.grown hg1 hwz.size (own_base HS1.out.row)⟩
        intro s hs
        rcases List.mem_append.1 hs with hs | hs
        · exact HS1.out.sizes s hs
        · rw [List.mem_singleton] at hs; subst hs; exact hnsz
      · go_wp2
        refine ⟨⟨k + 1, by omega, by go_num, ?_⟩, by simp [intOf]; omega⟩
        rw [HTK.out, HN.out, if_pos rfl, List.append_nil]
        exact HS1.out
    · obtain rfl : k = l.length := by omega
      have hte : hs.take l.length = hs := List.take_of_length_le (by omega)
      rw [List.take_length, hte] at HST hgl
      have HR := Lib.hid (rowS_own (S := NewB w wr) HST.out.row HST.out.sizes (by unfold maxLen; omega) (fun g hg => ⟨own_base HST.out.row g hg, own_lt' HST.out.row hg⟩))
      obtain ⟨pv, cv, rfl, -⟩ := OwnRow.form HR.out
      go_wp2
      go_ret2
      exact ⟨.slice pv (staleG l l hs).length cv, by rw [HY.out]; rfl, by rw [staleF, HY.out, if_pos rfl]; exact HR.out, hb⟩
end Go.Proofs.YtkgfanajgdelcaaGreatDoor
namespace Go.Proofs.YtkgfanajgdelcaaGreatDoor
open Go.RowKit
/-- The index of a text in a list, or -1. -/
def placeI (us : List ByteArray) (x : ByteArray) : Int := if x ∈ us then (us.idxOf x : Int) else -1
theorem placeI_neg (us : List ByteArray) (x : ByteArray) : decide (placeI us x < 0) = !inS us x := by
  rw [placeI, inS]
  split
  · rename_i h; simp [h]
  · rename_i h; simp [h]
theorem placeI_lo (us : List ByteArray) (x : ByteArray) : -1 ≤ placeI us x := by rw [placeI]; split <;> omega
theorem placeI_le (us : List ByteArray) (x : ByteArray) : placeI us x ≤ us.length := by
  rw [placeI]; split
  · rename_i h; have := List.idxOf_lt_length_of_mem h; omega
  · omega
theorem libGood_unit {l : List Un} (h : libGood l = true) {u : Un} (hu : u ∈ l) : unitOf l u.name = true := by
  obtain ⟨d, -, -⟩ := libGood_parts h
  obtain ⟨i, -, hp, -⟩ := place_some (findU_of d hu)
  rw [unitOf, h, hp]; rfl
theorem libGood_lo {l : List Un} (h : libGood l = true) : loF l = ordL l ∧ (loF l).length = l.length := by
  obtain ⟨-, e, -⟩ := libGood_parts h
  have : loF l = ordL l := by rw [loF, if_pos h]
  exact ⟨this, by rw [this, e]⟩
theorem libGood_ord {l : List Un} (h : libGood l = true) {y : ByteArray} (hy : y ∈ ordL l) : unitOf l y = true := by
  obtain ⟨v, hv, rfl⟩ := List.mem_map.1 ((ordL_inv l).sub y hy)
  exact libGood_unit h hv
theorem libGood_inc {l : List Un} (h : libGood l = true) {u : Un} (hu : u ∈ l) {y : ByteArray} (hy : y ∈ u.incs) : unitOf l y = true ∧ placeI (loF l) y < placeI (loF l) u.name ∧ ∀ z ∈ visV l y, z ∈ visV l u.name := by
  obtain ⟨d, e, -⟩ := libGood_parts h
  have hn := full_all e u hu
  have hin : y ∈ incsOf l u.name := by rw [incsOf, findU_of d hu]; exact hy
  obtain ⟨h1, h2⟩ := incs_rank d (ordL_inv l) hn hin
  have hy1 := libGood_ord h h1
  refine ⟨hy1, ?_, ?_⟩
  · rw [(libGood_lo h).1, placeI, placeI, if_pos h1, if_pos hn]; omega
  · intro z hz
    rw [visV, if_pos hy1, mem_visL d e h1] at hz
    obtain ⟨q, hq, hr, hz⟩ := hz
    rw [visV, if_pos (libGood_unit h hu), mem_visL d e hn]
    exact ⟨q, hq, UReach.trans (.step .here hin) hr, hz⟩
theorem libGood_axs {l : List Un} (h : libGood l = true) {u : Un} (hu : u ∈ l) : ∀ z ∈ u.axs, z ∈ visV l u.name := by
  obtain ⟨d, e, -⟩ := libGood_parts h
  have hn := full_all e u hu
  intro z hz
  rw [visV, if_pos (libGood_unit h hu), mem_visL d e hn]
  exact ⟨u.name, hn, .here, by rw [axsOf, findU_of d hu]; exact hz⟩
theorem libGood_stale {l : List Un} (h : libGood l = true) : staleOk l (l.map (fun u => hashV l u.name)) = true ∧ staleF l (l.map (fun u => hashV l u.name)) = [] := by
  have h1 : staleOk l (l.map (fun u => hashV l u.name)) = true := by rw [staleOk, h]; simp
  refine ⟨h1, ?_⟩
  rw [staleF, if_pos h1]
  have key : ∀ us : List Un, (∀ u ∈ us, u ∈ l) → staleG l us (us.map (fun u => hashV l u.name)) = [] := by
    intro us
    induction us with
    | nil => intro _; rfl
    | cons a us ih =>
      intro hs
      have ha : hashV l a.name = hashU l a.name := by rw [hashV, if_pos (libGood_unit h (hs a (List.mem_cons_self ..)))]
      rw [List.map_cons, staleG, if_pos (by rw [ha]; simp)]
      exact ih (fun u hu => hs u (List.mem_cons_of_mem _ hu))
  exact key l (fun _ h => h)
end Go.Proofs.YtkgfanajgdelcaaGreatDoor
namespace Go.Proofs.YtkgfanajgdelcaaGreatDoor
open Go.RowKit
section
variable {P : Program} {ops : Array Oper} {md : Region.Mode} {vs : List (Option Value)} {D : (Nat → Value) → Array Bool → World → Prop}
theorem upd_comm (u : Nat → Value) {i j : Nat} (x y : Value) (h : i ≠ j) : upd (upd u i x) j y = upd (upd u j y) i x := by
  funext k
  unfold upd
  by_cases h1 : k = j
  · by_cases h2 : k = i
    · exact absurd (h2.symm.trans h1) h
    · rw [if_pos h1, if_neg h2, if_pos h1]
  · rw [if_neg h1]
    by_cases h2 : k = i
    · rw [if_pos h2, if_pos h2]
    · rw [if_neg h2, if_neg h2, if_neg h1]
def GV (P : Program) (md : Region.Mode) (ops : Array Oper) (D : (Nat → Value) → Array Bool → World → Prop) (o : Oper) (i : Nat) (a : Act) (u : Nat → Value) : Prop :=
  Region.wanted o (yielded ops a.tmps) = true ∧ ∀ u', (∀ e ∈ o.after, Region.binds md e = true → u' e.on = u e.on) → ∀ L w, L.getD i true = false → Behind md o L → D u' L w → eachUpon P (fun x w' => D (upd u' i x) (L.setIfInBounds i true) w') ((execOp a.eval o).run P w)
theorem GV.eval {o : Oper} {i : Nat} {a a' : Act} {u u' : Nat → Value} (h : GV P md ops D o i a u) (he : execOp a'.eval o = execOp a.eval o) (hw : Region.wanted o (yielded ops a'.tmps) = Region.wanted o (yielded ops a.tmps)) (hu : ∀ e ∈ o.after, Region.binds md e = true → u' e.on = u e.on) : GV P md ops D o i a' u' := by
  unfold GV at *
  rw [he, hw]
  exact ⟨h.1, fun v hv => h.2 v fun e h1 h2 => (hv e h1 h2).trans (hu e h1 h2)⟩
def opV (P : Program) (md : Region.Mode) (ops : Array Oper) (vs : List (Option Value)) (D : (Nat → Value) → Array Bool → World → Prop) (i : Nat) (K : Act → (Nat → Value) → Prop) (a : Act) (u : Nat → Value) : Prop :=
  ∃ o, ops[i]? = some o ∧ ((stB vs i = true ∧ GS P md ops vs D o i a ∧ K (a.put o.dst (baseV vs i)) u) ∨ (stB vs i = false ∧ GV P md ops D o i a u ∧ ∀ x, K (a.put o.dst x) (upd u i x)))
def anyV (P : Program) (md : Region.Mode) (ops : Array Oper) (vs : List (Option Value)) (D : (Nat → Value) → Array Bool → World → Prop) (Q : Array Bool → Act → (Nat → Value) → Prop) : Nat → Array Bool → Act → (Nat → Value) → Prop
  | 0, L, a, u => Region.ready md ops L = [] ∧ Q L a u
  | fuel + 1, L, a, u => (Region.ready md ops L = [] → Q L a u) ∧ ∀ i ∈ Region.ready md ops L, opV P md ops vs D i (anyV P md ops vs D Q fuel (L.setIfInBounds i true)) a u
theorem wpAny_of_anyV {Q : Array Bool → Act → (Nat → Value) → Prop} {Q' : Exit → Act → World → Prop} (hQ : ∀ L a u w, D u L w → Q L a u → Q' .normal a w) : ∀ (fuel : Nat) (L : Array Bool) (a : Act) (u : Nat → Value) (w : World), D u L w →
    anyV P md ops vs D Q fuel L a u → wpAny P md ops Q' fuel L a w
  | 0, _, _, _, _, hw, h => ⟨h.1, hQ _ _ _ _ hw h.2⟩
  | fuel + 1, L, a, u, w, hw, h => by
    refine ⟨fun h0 => hQ _ _ _ _ hw (h.1 h0), fun i hi => ?_⟩
    obtain ⟨o, ho, ⟨hs, hg, hK⟩ | ⟨hs, hg, hK⟩⟩ := h.2 i hi
    · exact wpOp_of_flowOp (C := D u) (K := fun a' => anyV P md ops vs D Q fuel (L.setIfInBounds i true) a' u) hi hw (fun a' w' hw' hK => wpAny_of_anyV hQ fuel _ a' u w' hw' hK) ⟨o, _, ho, hg u, hK⟩
    · obtain ⟨hun, oj, hoj, hall⟩ := mem_ready.1 hi
      obtain rfl : oj = o := Option.some.inj (hoj.symm.trans ho)
      have hbe : Behind md oj L := fun e he hb => by simpa using hall e he hb
      have h3 := hg.2 u (fun _ _ _ => rfl) L w hun hbe hw
      unfold wpOp
      simp only [ho]
      rw [if_pos hg.1]
      refine .inl ?_
      unfold Oper.wp
      generalize (execOp a.eval oj).run P w = r at *
      cases r with
      | ok n w' =>
        cases n <;> simp only [eachUpon] at h3 <;> simp only [Oper.upon]
        case value x => exact wpAny_of_anyV hQ fuel _ _ _ _ h3 (hK x)
        case skip => exact wpAny_of_anyV hQ fuel _ _ _ _ h3 (hK undef)
        case enter f args => exact h3.mono fun e w'' ⟨x, he, hw''⟩ => by subst he; exact wpAny_of_anyV hQ fuel _ _ _ _ hw'' (hK x)
      | halt x w' => simp only [eachUpon] at h3
theorem anyV_firstS {Q : Array Bool → Act → (Nat → Value) → Prop} {i : Nat} {oi : Oper} (hi : ops[i]? = some oi) (hst : stB vs i = true) (hsel : ∀ (j : Nat) (o : Oper) cs b, ops[j]? = some o → o.op ≠ .select cs b) :
    ∀ (fuel : Nat) (L : Array Bool) (a : Act) (u : Nat → Value),
      (∀ j oj, ops[j]? = some oj → j ≠ i → L.getD j true = false → (∀ e ∈ oj.after, Region.binds md e = true → e.on ≠ i) → oi.apart ops oj = true) →
      i ∈ Region.ready md ops L → GS P md ops vs D oi i a →
      anyV P md ops vs D Q fuel (L.setIfInBounds i true) (a.put oi.dst (baseV vs i)) u → anyV P md ops vs D Q (fuel + 1) L a u := by
  intro fuel
  induction fuel with
  | zero =>
    intro L a u _ hr hy H
    refine ⟨fun h => (by rw [h] at hr; cases hr), fun j hj => ?_⟩
    by_cases hji : j = i
    · subst hji; exact ⟨oi, hi, .inl ⟨hst, hy, H⟩⟩
    · have := ready_mono hj hji
      rw [H.1] at this
      cases this
  | succ fuel ih =>
    intro L a u hfree hr hy H
    refine ⟨fun h => (by rw [h] at hr; cases hr), fun j hj => ?_⟩
    by_cases hji : j = i
    · subst hji; exact ⟨oi, hi, .inl ⟨hst, hy, H⟩⟩
    · obtain ⟨hjun, oj, hoj, hall⟩ := mem_ready.1 hj
      have hnot : ∀ e ∈ oj.after, Region.binds md e = true → e.on ≠ i := fun e he hb heq => by
        have h1 := hall e he hb
        have h0 := (mem_ready.1 hr).1
        rw [heq] at h1
        rw [getD_tf h0] at h1; cases h1
      obtain ⟨p1, p2, p3⟩ := Oper.apart_spec (hfree j oj hoj hji hjun hnot)
      have hfree' : ∀ k ok, ops[k]? = some ok → k ≠ i → (L.setIfInBounds j true).getD k true = false →
          (∀ e ∈ ok.after, Region.binds md e = true → e.on ≠ i) → oi.apart ops ok = true := fun k ok hk hki hun hno => by
        refine hfree k ok hk hki ?_ hno
        by_cases hjk : j = k
        · subst hjk; exact hjun
        · rw [getD_set_ne true hjk] at hun; exact hun
      obtain ⟨o, ho, hcase⟩ := H.2 j (ready_mono hj hji)
      obtain rfl : oj = o := Option.some.inj (hoj.symm.trans ho)
      have hej := execOp_put oj (fun cs b => hsel j oj cs b hoj) a oi.dst (baseV vs i) p1
      have hwj := wanted_put (ops := ops) oj a oi.dst (baseV vs i) p1
      rcases hcase with ⟨hs, hg, hK⟩ | ⟨hs, hg, hK⟩
      · refine ⟨oj, hoj, .inl ⟨hs, hg.eval hej.symm hwj.symm, ih (L.setIfInBounds j true) _ u hfree' (ready_mono hr (Ne.symm hji)) (hy.eval (execOp_put oi (fun cs b => hsel i oi cs b hi) a oj.dst _ p3) (wanted_put oi a oj.dst _ p3)) ?_⟩⟩
        rw [Array.setIfInBounds_comm _ _ hji, ← Act.put_comm a _ _ p2]; exact hK
      · refine ⟨oj, hoj, .inr ⟨hs, hg.eval hej.symm hwj.symm (fun _ _ _ => rfl), fun x => ih (L.setIfInBounds j true) _ _ hfree' (ready_mono hr (Ne.symm hji)) (hy.eval (execOp_put oi (fun cs b => hsel i oi cs b hi) a oj.dst x p3) (wanted_put oi a oj.dst x p3)) ?_⟩⟩
        rw [Array.setIfInBounds_comm _ _ hji, ← Act.put_comm a _ _ p2]; exact hK x
theorem anyV_firstV {Q : Array Bool → Act → (Nat → Value) → Prop} {i : Nat} {oi : Oper} (hi : ops[i]? = some oi) (hst : stB vs i = false) (hsel : ∀ (j : Nat) (o : Oper) cs b, ops[j]? = some o → o.op ≠ .select cs b) :
    ∀ (fuel : Nat) (L : Array Bool) (a : Act) (u : Nat → Value),
      (∀ j oj, ops[j]? = some oj → j ≠ i → L.getD j true = false → (∀ e ∈ oj.after, Region.binds md e = true → e.on ≠ i) → oi.apart ops oj = true) →
      i ∈ Region.ready md ops L → GV P md ops D oi i a u →
      (∀ x, anyV P md ops vs D Q fuel (L.setIfInBounds i true) (a.put oi.dst x) (upd u i x)) → anyV P md ops vs D Q (fuel + 1) L a u := by
  intro fuel
  induction fuel with
  | zero =>
    intro L a u _ hr hy H
    refine ⟨fun h => (by rw [h] at hr; cases hr), fun j hj => ?_⟩
    by_cases hji : j = i
    · subst hji; exact ⟨oi, hi, .inr ⟨hst, hy, H⟩⟩
    · have := ready_mono hj hji
      rw [(H undef).1] at this
      cases this
  | succ fuel ih =>
    intro L a u hfree hr hy H
    refine ⟨fun h => (by rw [h] at hr; cases hr), fun j hj => ?_⟩
    by_cases hji : j = i
    · subst hji; exact ⟨oi, hi, .inr ⟨hst, hy, H⟩⟩
    · obtain ⟨hjun, oj, hoj, hall⟩ := mem_ready.1 hj
      have hnot : ∀ e ∈ oj.after, Region.binds md e = true → e.on ≠ i := fun e he hb heq => by
        have h1 := hall e he hb
        have h0 := (mem_ready.1 hr).1
        rw [heq] at h1
        rw [getD_tf h0] at h1; cases h1
      have hnoti : ∀ e ∈ oi.after, Region.binds md e = true → e.on ≠ j := fun e he hb heq => by
        obtain ⟨_, oi', hoi', hall'⟩ := mem_ready.1 hr
        obtain rfl : oi = oi' := Option.some.inj (hi.symm.trans hoi')
        have h1 := hall' e he hb
        rw [heq] at h1
        rw [getD_tf hjun] at h1; cases h1
      obtain ⟨p1, p2, p3⟩ := Oper.apart_spec (hfree j oj hoj hji hjun hnot)
      have hfree' : ∀ k ok, ops[k]? = some ok → k ≠ i → (L.setIfInBounds j true).getD k true = false →
          (∀ e ∈ ok.after, Region.binds md e = true → e.on ≠ i) → oi.apart ops ok = true := fun k ok hk hki hun hno => by
        refine hfree k ok hk hki ?_ hno
        by_cases hjk : j = k
        · subst hjk; exact hjun
        · rw [getD_set_ne true hjk] at hun; exact hun
      have hej : ∀ x, execOp (a.put oi.dst x).eval oj = execOp a.eval oj := fun x => execOp_put oj (fun cs b => hsel j oj cs b hoj) a oi.dst x p1
      have hwj : ∀ x, Region.wanted oj (yielded ops (a.put oi.dst x).tmps) = Region.wanted oj (yielded ops a.tmps) := fun x => wanted_put (ops := ops) oj a oi.dst x p1
      have hei : ∀ y, execOp (a.put oj.dst y).eval oi = execOp a.eval oi := fun y => execOp_put oi (fun cs b => hsel i oi cs b hi) a oj.dst y p3
      have hwi : ∀ y, Region.wanted oi (yielded ops (a.put oj.dst y).tmps) = Region.wanted oi (yielded ops a.tmps) := fun y => wanted_put (ops := ops) oi a oj.dst y p3
      cases hsj : stB vs j with
      | true =>
        have hx : ∀ x, GS P md ops vs D oj j a ∧ anyV P md ops vs D Q fuel ((L.setIfInBounds i true).setIfInBounds j true) ((a.put oi.dst x).put oj.dst (baseV vs j)) (upd u i x) := fun x => by
          obtain ⟨o, ho, hcase⟩ := (H x).2 j (ready_mono hj hji)
          obtain rfl : oj = o := Option.some.inj (hoj.symm.trans ho)
          rcases hcase with ⟨hs, hg, hK⟩ | ⟨hs, hg, hK⟩
          · exact ⟨hg.eval (hej x).symm (hwj x).symm, hK⟩
          · rw [hs] at hsj; cases hsj
        refine ⟨oj, hoj, .inl ⟨hsj, (hx undef).1, ih (L.setIfInBounds j true) _ u hfree' (ready_mono hr (Ne.symm hji)) (hy.eval (hei _) (hwi _) (fun _ _ _ => rfl)) fun x => ?_⟩⟩
        rw [Array.setIfInBounds_comm _ _ hji, ← Act.put_comm a _ _ p2]; exact (hx x).2
      | false =>
        have hx : ∀ x, GV P md ops D oj j a u ∧ ∀ y, anyV P md ops vs D Q fuel ((L.setIfInBounds i true).setIfInBounds j true) ((a.put oi.dst x).put oj.dst y) (upd (upd u i x) j y) := fun x => by
          obtain ⟨o, ho, hcase⟩ := (H x).2 j (ready_mono hj hji)
          obtain rfl : oj = o := Option.some.inj (hoj.symm.trans ho)
          rcases hcase with ⟨hs, hg, hK⟩ | ⟨hs, hg, hK⟩
          · rw [hs] at hsj; cases hsj
          · exact ⟨hg.eval (hej x).symm (hwj x).symm (fun e h1 h2 => (upd_other u x (hnot e h1 h2)).symm), hK⟩
        refine ⟨oj, hoj, .inr ⟨hsj, (hx undef).1, fun y => ih (L.setIfInBounds j true) _ _ hfree' (ready_mono hr (Ne.symm hji)) (hy.eval (hei y) (hwi y) (fun e h1 h2 => upd_other u y (hnoti e h1 h2))) fun x => ?_⟩⟩
        rw [Array.setIfInBounds_comm _ _ hji, ← Act.put_comm a _ _ p2, ← upd_comm u x y (Ne.symm hji)]; exact (hx x).2 y
/-- The walk in the text's order. -/
def flowV (P : Program) (md : Region.Mode) (ops : Array Oper) (vs : List (Option Value)) (D : (Nat → Value) → Array Bool → World → Prop) (Q : Act → (Nat → Value) → Prop) : Nat → List Oper → Act → (Nat → Value) → Prop
  | _, [], a, u => Q a u
  | k, o :: rest, a, u => (stB vs k = true ∧ GS P md ops vs D o k a ∧ flowV P md ops vs D Q (k + 1) rest (a.put o.dst (baseV vs k)) u) ∨ (stB vs k = false ∧ GV P md ops D o k a u ∧ ∀ x, flowV P md ops vs D Q (k + 1) rest (a.put o.dst x) (upd u k x))
theorem anyV_lex {Q : Act → (Nat → Value) → Prop} (hs : Region.noSelect ops = true) : ∀ (l : List Oper) (k : Nat) (L : Array Bool) (a : Act) (u : Nat → Value), (∀ j, l[j]? = ops[k + j]?) → L.size = ops.size → k + l.length = ops.size → (∀ i, i < k → L.getD i false = true) →
    Region.lexFrom md ops l.length k L = true → flowV P md ops vs D Q k l a u → anyV P md ops vs D (fun L a u => (∀ i, i < ops.size → L.getD i false = true) ∧ Q a u) l.length L a u
  | [], k, _, _, _, _, _, hk, hall, hB, h => ⟨by simpa [Region.lexFrom] using hB, fun i hi => hall i (by simp at hk; omega), h⟩
  | o :: l, k, L, a, u, hl, hz, hk, hall, hB, h => by
    have h0 : ops[k]? = some o := by simpa using (hl 0).symm
    simp only [List.length_cons, Region.lexFrom, Bool.and_eq_true] at hB
    obtain ⟨⟨hr, hf⟩, hB'⟩ := hB
    have hlt : k < L.size := by simp only [List.length_cons] at hk; omega
    have hrk : k ∈ Region.ready md ops L := by simpa using hr
    have next : ∀ a u, flowV P md ops vs D Q (k + 1) l a u → anyV P md ops vs D (fun L a u => (∀ i, i < ops.size → L.getD i false = true) ∧ Q a u) l.length (L.setIfInBounds k true) a u := fun a u hK =>
      anyV_lex hs l (k + 1) _ _ u (fun j => by have := hl (j + 1); simpa [Nat.add_assoc, Nat.add_comm 1 j] using this) (by simpa using hz) (by simp only [List.length_cons] at hk; omega)
        (fun i hi => by
          by_cases hik : i = k
          · subst hik; simp [hlt]
          · rw [getD_set_ne false (Ne.symm hik)]; exact hall i (by omega)) hB' hK
    rcases h with ⟨hst, hy, hK⟩ | ⟨hst, hy, hK⟩
    · exact anyV_firstS h0 hst (Region.noSelect_spec hs) l.length L a u (Region.free_spec h0 hf) hrk hy (next _ _ hK)
    · exact anyV_firstV h0 hst (Region.noSelect_spec hs) l.length L a u (Region.free_spec h0 hf) hrk hy (fun x => next _ _ (hK x))
theorem wp_region_any3 {id : Nat} {Q : Exit → Act → World → Prop} {a : Act} {w : World} {l : List Oper} (vs : List (Option Value)) (D : (Nat → Value) → Array Bool → World → Prop) (hm : P.follows .mixedOrders = true) (hB : Region.lexB .any l.toArray = true)
    (hC : ∀ L : Array Bool, (∀ i, L.getD i false = false) → D (fun _ => undef) L w.drew)
    (h : flowV P .any l.toArray vs D (fun a' u => ∀ L w', (∀ i, i < l.length → L.getD i false = true) → D u L w' → Q .normal a' w') 0 l a (fun _ => undef)) : (Code.region id l.toArray true).wp P Q a w := by
  simp only [Region.lexB, Bool.and_eq_true] at hB
  refine wp_region_any hm (wpAny_of_anyV (vs := vs) (D := D) (Q := fun L a u => (∀ i, i < l.toArray.size → L.getD i false = true) ∧ ∀ L w', (∀ i, i < l.length → L.getD i false = true) → D u L w' → Q .normal a w')
    (fun L a u w' hw' h => h.2 L w' (by simpa using h.1) hw') _ _ _ (fun _ => undef) _ (hC _ (fun i => getD_replicate_none _ _)) ?_)
  have := anyV_lex hB.1 l 0 (Array.replicate l.length false) a (fun _ => undef) (by simp) (by simp) (by simp) (fun i hi => absurd hi (by omega)) (by simpa using hB.2) h
  simpa using this
theorem flowV_st {Q : Act → (Nat → Value) → Prop} {k : Nat} {o : Oper} {rest : List Oper} {a : Act} {u : Nat → Value} (hs : stB vs k = true) (hg : o.guard = none)
    (h1 : ∀ u L w, L.getD k true = false → Behind md o L → D u L w → goesUpon P (D u (L.setIfInBounds k true)) (baseV vs k) ((execOp a.eval o).run P w)) (h2 : flowV P md ops vs D Q (k + 1) rest (a.put o.dst (baseV vs k)) u) : flowV P md ops vs D Q k (o :: rest) a u :=
  .inl ⟨hs, fun u => .inl ⟨by simp [Region.wanted, hg], h1 u⟩, h2⟩
theorem flowV_ch {Q : Act → (Nat → Value) → Prop} {k : Nat} {o : Oper} {rest : List Oper} {a : Act} {u : Nat → Value} (hs : stB vs k = false) (hg : o.guard = none)
    (h1 : ∀ u', (∀ e ∈ o.after, Region.binds md e = true → u' e.on = u e.on) → ∀ L w, L.getD k true = false → Behind md o L → D u' L w → eachUpon P (fun x w' => D (upd u' k x) (L.setIfInBounds k true) w') ((execOp a.eval o).run P w)) (h2 : ∀ x, flowV P md ops vs D Q (k + 1) rest (a.put o.dst x) (upd u k x)) : flowV P md ops vs D Q k (o :: rest) a u :=
  .inr ⟨hs, ⟨by simp [Region.wanted, hg], h1⟩, h2⟩
theorem flowV_nil {Q : Act → (Nat → Value) → Prop} {k : Nat} {a : Act} {u : Nat → Value} (h : Q a u) : flowV P md ops vs D Q k [] a u := h
end
end Go.Proofs.YtkgfanajgdelcaaGreatDoor
namespace Go.Proofs.YtkgfanajgdelcaaGreatDoor
open Go.RowKit
/-- A unit and where its rows lie. -/
structure UC where
  u : Un
  p : Option Addr
  c : Nat
  q : Option Addr
  d : Nat
def UC.cs (x : UC) : List Value := [.string x.u.name, .slice x.p x.u.incs.length x.c, .slice x.q x.u.axs.length x.d, .string x.u.goal]
def flatU (D : List UC) : List Value := D.flatMap UC.cs
theorem flatU_len : ∀ D : List UC, (flatU D).length = D.length * 4
  | [] => rfl
  | x :: D => by
    have := flatU_len D
    rw [flatU] at this
    rw [flatU, List.flatMap_cons, List.length_append, this, List.length_cons]
    show 4 + D.length * 4 = _; omega
theorem flatU_app (A B : List UC) : flatU (A ++ B) = flatU A ++ flatU B := by simp [flatU]
theorem flatU_at {D : List UC} {k : Nat} {y : UC} (h : D[k]? = some y) {i : Nat} (hi : i < 4) : (flatU D)[k * 4 + i]? = y.cs[i]? := by
  obtain ⟨hk, hy⟩ := List.getElem?_eq_some_iff.1 h
  have e : D = D.take k ++ y :: D.drop (k + 1) := by rw [← hy, ← List.drop_eq_getElem_cons hk, List.take_append_drop]
  have hl : (flatU (D.take k)).length = k * 4 := by rw [flatU_len, List.length_take]; congr 1; omega
  rw [e, flatU_app, List.getElem?_append_right (by omega), hl, Nat.add_sub_cancel_left]
  rw [flatU, List.flatMap_cons, List.getElem?_append_left (by show i < 4; exact hi)]
theorem flatU_set {D : List UC} {k : Nat} (hk : k < D.length) (y : UC) : flatU (D.set k y) = ((((flatU D).set (k * 4) (.string y.u.name)).set (k * 4 + 1) (.slice y.p y.u.incs.length y.c)).set (k * 4 + 2) (.slice y.q y.u.axs.length y.d)).set (k * 4 + 3) (.string y.u.goal) := by
  have hl : (flatU (D.take k)).length = k * 4 := by rw [flatU_len, List.length_take]; congr 1; omega
  have e : D = D.take k ++ D[k] :: D.drop (k + 1) := by rw [← List.drop_eq_getElem_cons hk, List.take_append_drop]
  have e2 : D.set k y = D.take k ++ y :: D.drop (k + 1) := by
    rw [List.set_eq_take_append_cons_drop, if_pos hk]
  have e3 : flatU D = flatU (D.take k) ++ (D[k].cs ++ flatU (D.drop (k + 1))) := by
    conv => lhs; rw [e]
    rw [flatU_app]; rfl
  rw [e2, flatU_app, e3]
  have s : ∀ (A : List Value) (i : Nat) (z : Value), (flatU (D.take k) ++ A).set (k * 4 + i) z = flatU (D.take k) ++ A.set i z := fun A i z => by
    rw [List.set_append_right _ _ (by omega), hl, Nat.add_sub_cancel_left]
  have s0 : ∀ (A : List Value) (z : Value), (flatU (D.take k) ++ A).set (k * 4) z = flatU (D.take k) ++ A.set 0 z := fun A z => by have := s A 0 z; rwa [Nat.add_zero] at this
  rw [s0, s, s, s]
  rfl
theorem rowU_cell {w : World} {base n c : Nat} {e : TypeId} {p : Option Addr} {D : List UC} (h : w.ownsRow base e 4 (.slice p n c) n (flatU D)) (h0 : 0 < n) : ∃ g, p = some ⟨g, 0, none⟩ ∧ base ≤ g ∧ g < w.heap.size ∧ (∀ j, w.frozen? ⟨g, j, none⟩ = false) ∧
    ∀ (k : Nat) (y : UC), D[k]? = some y → w.cell? ⟨g, k * 4, none⟩ = some (.string y.u.name) ∧ w.cell? ⟨g, k * 4 + 1, none⟩ = some (.slice y.p y.u.incs.length y.c) ∧ w.cell? ⟨g, k * 4 + 2, none⟩ = some (.slice y.q y.u.axs.length y.d) ∧ w.cell? ⟨g, k * 4 + 3, none⟩ = some (.string y.u.goal) := by
  rcases h.2 with ⟨hv, h1⟩ | ⟨g, cap, cur, hv, h1, h2, h3, h4, h5, h6⟩
  · omega
  · simp only [Value.slice.injEq, true_and] at hv
    obtain ⟨rfl, rfl⟩ := hv
    refine ⟨g, rfl, h1, blk_lt h2, fun j => frozen_of_row w g j _ _ h2, fun k y hy => ?_⟩
    have key : ∀ i, i < 4 → w.cell? ⟨g, k * 4 + i, none⟩ = y.cs[i]? := fun i hi => by
      rw [cell_of_row w g (k * 4 + i) cur _ (0, 0) h2]
      have hk := flatU_at hy hi
      rw [← h6, List.getElem?_take] at hk
      split at hk
      · simpa using hk
      · rw [List.getElem?_eq_getElem (by show i < 4; exact hi)] at hk; cases hk
    exact ⟨key 0 (by omega), key 1 (by omega), key 2 (by omega), key 3 (by omega)⟩
abbrev set4W (W : World) (b o : Nat) (u0 u1 u2 u3 : Value) : World := (((W.setCell ⟨b, o, none⟩ u0).setCell ⟨b, o + 1, none⟩ u1).setCell ⟨b, o + 2, none⟩ u2).setCell ⟨b, o + 3, none⟩ u3
theorem set4_other (W : World) {b o k : Nat} (u0 u1 u2 u3 : Value) (hk : k ≠ b) : (set4W W b o u0 u1 u2 u3).heap[k]? = W.heap[k]? :=
  (heap_setCell_other _ ⟨b, o + 3, none⟩ k _ hk).trans ((heap_setCell_other _ ⟨b, o + 2, none⟩ k _ hk).trans ((heap_setCell_other _ ⟨b, o + 1, none⟩ k _ hk).trans (heap_setCell_other _ ⟨b, o, none⟩ k _ hk)))
theorem rowU_set {w : World} {base n c g k : Nat} {e : TypeId} {D : List UC} (y : UC) (hk : k < D.length) (h : w.ownsRow base e 4 (.slice (some ⟨g, 0, none⟩) n c) n (flatU D)) : (set4W w g (k * 4) (.string y.u.name) (.slice y.p y.u.incs.length y.c) (.slice y.q y.u.axs.length y.d) (.string y.u.goal)).ownsRow base e 4 (.slice (some ⟨g, 0, none⟩) n c) n (flatU (D.set k y)) := by
  rcases h.2 with ⟨hv, h1⟩ | ⟨g', cap, cur, hv, h1, h2, h3, h4, h5, h6⟩
  · cases hv
  · simp only [Value.slice.injEq, Option.some.injEq, Addr.mk.injEq, and_true, true_and] at hv
    obtain ⟨rfl, rfl⟩ := hv
    refine ⟨by have := h.1; rw [flatU_len] at this ⊢; rw [List.length_set]; exact this, .inr ⟨g, c, _, rfl, h1, heap_setCell_same _ g (k * 4 + 3) _ _ _ (heap_setCell_same _ g (k * 4 + 2) _ _ _ (heap_setCell_same _ g (k * 4 + 1) _ _ _ (heap_setCell_same w g (k * 4) cur _ _ h2))), h3, h4, by simpa using h5, ?_⟩⟩
    rw [Array.toList_setIfInBounds, Array.toList_setIfInBounds, Array.toList_setIfInBounds, Array.toList_setIfInBounds, List.take_set, List.take_set, List.take_set, List.take_set, h6, flatU_set hk]
end Go.Proofs.YtkgfanajgdelcaaGreatDoor
namespace Go.Proofs.YtkgfanajgdelcaaGreatDoor
open Go.RowKit
theorem own_lenU {w : World} {base : Nat} {e : TypeId} {size : Nat} {v : Value} {n : Nat} {xs : List Value} (h : w.ownsRow base e size v n xs) : n ≤ maxLen := by
  rcases h.2 with ⟨_, rfl⟩ | ⟨g, cap, cur, _, _, _, h1, h2, _⟩
  · exact Nat.zero_le _
  · exact Nat.le_trans h1 h2
section
variable {e eU : TypeId} {W0 wr w2 : World} {k : Nat} {u : Un} {va vb v' : Value} {r : ByteArray}
theorem newRow_ne {H b : Nat} {v v' : Value} (hn : NewRow v v' H) (hb : b < H) (hv : v.ownBlock ≠ some b) : v'.ownBlock ≠ some b := fun hg => by
  rcases hn with h | ⟨g, h, hge⟩
  · exact hv (h ▸ hg)
  · rw [h] at hg; injection hg with hg; omega
end
end Go.Proofs.YtkgfanajgdelcaaGreatDoor
namespace Go.Proofs.YtkgfanajgdelcaaGreatDoor
open Go.RowKit
/-! ### An append of what a slice reads -/
/-- A slice whose cells read as given. -/
def SrcIs (w : World) (size : Nat) (v : Value) (m : Nat) (news : List Value) : Prop :=
  (v = .slice none 0 0 ∧ m = 0 ∧ news = []) ∨ ∃ (b o c : Nat), v = .slice (some ⟨b, o, none⟩) m c ∧ news.length = m * size ∧ ∀ (j : Nat) (u : Value), news[j]? = some u → w.cell? ⟨b, o + j, none⟩ = some u
theorem run_app {P : Program} (w : World) (t ty e : TypeId) (size bytes : Nat) (hE : Elem P t e size bytes) (base : Nat) (v : Value) (n : Nat) (xs : List Value) (hown : w.ownsRow base e size v n xs) (v2 : Value) (m : Nat) (news : List Value) (hsrc : SrcIs w size v2 m news) (h1 : ∀ u ∈ news, u.oneCell' = true)
    (h63 : n + m ≤ maxLen) (hbytes : (n + m) * bytes ≤ 140737488355328) (hbase : base ≤ w.heap.size) :
    ∃ v' w', (Builtin.append_ #[t, t] ty #[v, v2]).run P w = .ok v' w' ∧ w'.ownsRow base e size v' (n + m) (xs ++ news) ∧ w.grownBy w' v.ownBlock ∧ NewRow v v' w.heap.size := by
  obtain ⟨ht, i, z, hi, hz, hsz, hby, hzs, hpos⟩ := hE
  rcases hsrc with ⟨rfl, rfl, rfl⟩ | ⟨b, o, c, rfl, hl, hc⟩
  · refine ⟨v, w, run_append_owned_none (P := P) w base t ty e i size ht hi v n xs hown, by simpa using hown, ⟨rfl, rfl, rfl, Nat.le_refl _, fun _ _ _ => rfl⟩, .inl rfl⟩
  · obtain ⟨v', w', hr, h2, h3, _, h5⟩ := run_append_own_at (P := P) w base t ty e i z size bytes ht hi hz hsz hby hzs hpos v n xs hown ⟨b, o, none⟩ m c news hl (fun j u hu => by
      have : ((⟨b, o, none⟩ : Addr).add j) = ⟨b, o + j, none⟩ := by unfold Addr.add; split <;> simp_all
      rw [this]; exact hc j u hu) h1 h63 hbytes hbase
    refine ⟨v', w', hr, h2, h3, ?_⟩
    rcases h5 with h5 | h5
    · exact .inl h5
    · exact .inr ⟨_, h5, Nat.le_refl _⟩
/-- .. as a plain operation. -/
theorem wpList_app {P : Program} {w : World} {ops : Array Oper} {rest : List Oper} {o : Oper} {a : Act} {Q : Exit → Act → World → Prop} (hgd : o.guard = none) (s x : Operand) (t : TypeId)
    (ho : o.op = .call { callee := .builtin .append, args := #[s, x], argTypes := #[t, t] })
    (base : Nat) (e : TypeId) (size bytes : Nat) (hE : Elem P t e size bytes)
    (v : Value) (n : Nat) (xs : List Value) (hs : a.eval s = v) (v2 : Value) (m : Nat) (news : List Value) (hx : a.eval x = v2) (hsrc : SrcIs w size v2 m news)
    (hown : w.ownsRow base e size v n xs) (h1 : ∀ u ∈ news, u.oneCell' = true) (hbytes : (n + m) * bytes ≤ 140737488355328) (h63 : n + m ≤ maxLen) (hbase : base ≤ w.heap.size)
    (h : ∀ v' w', w'.ownsRow base e size v' (n + m) (xs ++ news) → w.grownBy w' v.ownBlock → NewRow v v' w.heap.size → wpList P ops Q rest (a.put o.dst v') w') : wpList P ops Q (o :: rest) a w := by
  obtain ⟨v', w', hrun, h2, h3, h4⟩ := run_app (P := P) w t o.type e size bytes hE base v n xs hown v2 m news hsrc h1 h63 hbytes hbase
  refine wpList_plain hgd fun _ hK => ?_
  unfold Oper.wp execOp
  simp only [ho, resolve, invoke, builtin, Sem.run_bind, Sem.run_pure, Result.andThen_ok, List.map_toArray, List.map_cons, List.map_nil, hs, hx, hrun]
  exact hK _ _ (h v' w' h2 h3 h4)
/-- .. as an operation of a chain. -/
theorem each_app {P : Program} {w : World} {o : Oper} {a : Act} {E : Value → World → Prop} (s x : Operand) (t : TypeId) (ho : o.op = .call { callee := .builtin .append, args := #[s, x], argTypes := #[t, t] })
    (base : Nat) (e : TypeId) (size bytes : Nat) (hE : Elem P t e size bytes)
    (v : Value) (n : Nat) (xs : List Value) (hs : a.eval s = v) (v2 : Value) (m : Nat) (news : List Value) (hx : a.eval x = v2) (hsrc : SrcIs w size v2 m news)
    (hown : w.ownsRow base e size v n xs) (h1 : ∀ u ∈ news, u.oneCell' = true) (hbytes : (n + m) * bytes ≤ 140737488355328) (h63 : n + m ≤ maxLen) (hbase : base ≤ w.heap.size)
    (h : ∀ v' w', w'.ownsRow base e size v' (n + m) (xs ++ news) → w.grownBy w' v.ownBlock → NewRow v v' w.heap.size → E v' w') : eachUpon P E ((execOp a.eval o).run P w) := by
  obtain ⟨v', w', hrun, h2, h3, h4⟩ := run_app (P := P) w t o.type e size bytes hE base v n xs hown v2 m news hsrc h1 h63 hbytes hbase
  unfold execOp
  simp only [ho, resolve, invoke, builtin, Sem.run_bind, Sem.run_pure, Result.andThen_ok, List.map_toArray, List.map_cons, List.map_nil, hs, hx, hrun]
  exact h v' w' h2 h3 h4
/-- What an owned row reads, up to k and from k on. -/
theorem src_head {w : World} {base : Nat} {e : TypeId} {size n c k : Nat} {g : Nat} {xs : List Value} (h : w.ownsRow base e size (.slice (some ⟨g, 0, none⟩) n c) n xs) (hk : k ≤ n) (c' : Nat) : SrcIs w size (.slice (some ⟨g, 0, none⟩) k c') k (xs.take (k * size)) := by
  have hks : k * size ≤ n * size := Nat.mul_le_mul_right _ hk
  refine .inr ⟨g, 0, c', rfl, by rw [List.length_take, h.1]; omega, fun j u hu => ?_⟩
  rw [List.getElem?_take] at hu
  split at hu
  · rw [Nat.zero_add, h.cellAt j (by omega)]; exact hu
  · cases hu
theorem src_tail {w : World} {base : Nat} {e : TypeId} {size n c k : Nat} {g : Nat} {xs : List Value} (h : w.ownsRow base e size (.slice (some ⟨g, 0, none⟩) n c) n xs) (hk : k ≤ n) (c' : Nat) : SrcIs w size (.slice (some ⟨g, k * size, none⟩) (n - k) c') (n - k) (xs.drop (k * size)) := by
  have hks : k * size ≤ n * size := Nat.mul_le_mul_right _ hk
  refine .inr ⟨g, k * size, c', rfl, by rw [List.length_drop, h.1, Nat.sub_mul], fun j u hu => ?_⟩
  rw [List.getElem?_drop] at hu
  have hlt : k * size + j < xs.length := (List.getElem?_eq_some_iff.1 hu).1
  rw [h.cellAt _ (by rw [← h.1]; exact hlt)]; exact hu
theorem src_block {w : World} {size q : Nat} {cs : Array Value} {e : TypeId} (h : w.heap[q]? = some (.cells cs e (0, 0))) (hs : cs.size = size) : SrcIs w size (.slice (some ⟨q, 0, none⟩) 1 1) 1 cs.toList := by
  refine .inr ⟨q, 0, 1, rfl, by rw [Array.length_toList]; omega, fun j u hu => ?_⟩
  rw [Nat.zero_add, cell_of_row w q j cs e (0, 0) h]
  simpa using hu
theorem srcNil {w : World} {size g o c m : Nat} (hm : m = 0) : SrcIs w size (.slice (some ⟨g, o, none⟩) 0 c) m [] := by
  subst hm
  exact .inr ⟨g, o, c, rfl, by simp, fun j u h => by simp at h⟩
theorem SrcIs.below {w w' : World} {size m : Nat} {v : Value} {news : List Value} (h : SrcIs w size v m news) (hb : Below w.heap.size w w') : SrcIs w' size v m news := by
  rcases h with h | ⟨b, o, c, h1, h2, h3⟩
  · exact .inl h
  · exact .inr ⟨b, o, c, h1, h2, fun j u hu => (hb.cell (World.block_lt_of_cell? w _ (h3 j u hu))).trans (h3 j u hu)⟩
/-! ### Units with rows of their own -/
def UC.S (x : UC) (b : Nat) : Prop := (Value.slice x.p x.u.incs.length x.c).ownBlock = some b ∨ (Value.slice x.q x.u.axs.length x.d).ownBlock = some b
/-- The rows of one unit. -/
structure UC.Own (e : TypeId) (base : Nat) (w : World) (x : UC) : Prop where
  ra : w.ownsRow base e 1 (.slice x.p x.u.incs.length x.c) x.u.incs.length (strW x.u.incs)
  rb : w.ownsRow base e 1 (.slice x.q x.u.axs.length x.d) x.u.axs.length (strW x.u.axs)
  ap : ∀ g, (Value.slice x.p x.u.incs.length x.c).ownBlock = some g → (Value.slice x.q x.u.axs.length x.d).ownBlock ≠ some g
theorem UC.Own.blk {e : TypeId} {base : Nat} {w : World} {x : UC} (h : x.Own e base w) {b : Nat} (hb : x.S b) : base ≤ b ∧ b < w.heap.size := by
  rcases hb with hb | hb
  · exact ⟨own_base h.ra b hb, own_lt' h.ra hb⟩
  · exact ⟨own_base h.rb b hb, own_lt' h.rb hb⟩
theorem UC.Own.same {e : TypeId} {base : Nat} {w w' : World} {x : UC} (h : x.Own e base w) (hs : ∀ b, x.S b → b < w.heap.size → w'.heap[b]? = w.heap[b]?) : x.Own e base w' :=
  ⟨own_same h.ra fun g hg hl => hs g (.inl hg) hl, own_same h.rb fun g hg hl => hs g (.inr hg) hl, h.ap⟩
theorem UC.Own.un {e : TypeId} {base : Nat} {w : World} {x : UC} (h : x.Own e base w) (hn : x.u.name.size ≤ maxLen) (hg : x.u.goal.size ≤ maxLen) (hi : ∀ s ∈ x.u.incs, s.size ≤ maxLen) (ha : ∀ s ∈ x.u.axs, s.size ≤ maxLen) : UnOwn e x.S w x.u x.cs :=
  ⟨_, _, fun b => (Value.slice x.p x.u.incs.length x.c).ownBlock = some b, fun b => (Value.slice x.q x.u.axs.length x.d).ownBlock = some b, rfl, hn, hg, rowS_own h.ra hi (own_lenU h.ra) (fun _ h => h), rowS_own h.rb ha (own_lenU h.rb) (fun _ h => h), fun _ h => .inl h, fun _ h => .inr h, h.ap⟩
/-- Units in a row ov: their own rows lie apart from each other and from the row. -/
structure Uns (e : TypeId) (base : Nat) (w : World) (ov : Value) (D : List UC) : Prop where
  each : ∀ x ∈ D, x.Own e base w
  far : ∀ x ∈ D, ∀ b, x.S b → ov.ownBlock ≠ some b
  pair : D.Pairwise fun x y => ∀ b, x.S b → ¬ y.S b
section
variable {e eU : TypeId} {base : Nat} {w w' : World} {ov ov' : Value} {D D' : List UC}
theorem Uns.nil (e : TypeId) (base : Nat) (w : World) (ov : Value) : Uns e base w ov [] := ⟨fun _ h => (by cases h), fun _ h => (by cases h), List.Pairwise.nil⟩
theorem Uns.perm (h : Uns e base w ov D) (hp : D'.Perm D) : Uns e base w ov D' :=
  ⟨fun x hx => h.each x (hp.mem_iff.1 hx), fun x hx => h.far x (hp.mem_iff.1 hx), (List.Perm.pairwise_iff (fun hab b h1 h2 => hab b h2 h1) hp).2 h.pair⟩
theorem Uns.below (h : Uns e base w ov D) (hb : Below w.heap.size w w') : Uns e base w' ov D :=
  ⟨fun x hx => (h.each x hx).same fun b _ hl => hb.block b hl, h.far, h.pair⟩
theorem Uns.snoc (h : Uns e base w ov D) {x : UC} (hx : x.Own e base w) (hf : ∀ b, x.S b → ov.ownBlock ≠ some b) (hd : ∀ y ∈ D, ∀ b, y.S b → ¬ x.S b) : Uns e base w ov (D ++ [x]) := by
  refine ⟨fun y hy => ?_, fun y hy => ?_, ?_⟩
  · rcases List.mem_append.1 hy with hy | hy
    · exact h.each y hy
    · obtain rfl : y = x := by simpa using hy
      exact hx
  · rcases List.mem_append.1 hy with hy | hy
    · exact h.far y hy
    · obtain rfl : y = x := by simpa using hy
      exact hf
  · rw [List.pairwise_append]
    exact ⟨h.pair, by simp, fun a ha b hb => by obtain rfl : b = x := by simpa using hb
                                                exact hd a ha⟩
theorem flatU_cut (D : List UC) {i : Nat} {x : UC} (h : D[i]? = some x) : ((flatU D).drop (i * 4)).take 4 = x.cs := by
  obtain ⟨hi, rfl⟩ := List.getElem?_eq_some_iff.1 h
  have hl : (flatU (D.take i)).length = i * 4 := by rw [flatU_len, List.length_take]; congr 1; omega
  have e : D = D.take i ++ D[i] :: D.drop (i + 1) := by rw [← List.drop_eq_getElem_cons hi, List.take_append_drop]
  have e3 : flatU D = flatU (D.take i) ++ (D[i].cs ++ flatU (D.drop (i + 1))) := by
    conv => lhs; rw [e]
    rw [flatU_app]; rfl
  rw [e3, List.drop_append_of_le_length (by omega), ← hl, List.drop_length, List.nil_append]
  rw [List.take_append_of_le_length (by show 4 ≤ 4; omega)]
  rfl
/-- The row as units that own their memory. -/
theorem Uns.own {S : Nat → Prop} {us : List Un} (h : Uns e base w ov D) (hr : w.ownsRow base eU 4 ov us.length (flatU D)) (hu : D.map UC.u = us) (hm : us.length ≤ maxLen) (hz : ∀ u ∈ us, u.wt ≤ maxLen) (hS : ∀ b, base ≤ b → b < w.heap.size → S b) : UnsOwn e eU S w us ov := by
  subst hu
  have hlt : ∀ {i : Nat} {x : UC}, D[i]? = some x → x ∈ D := fun h => List.mem_of_getElem? h
  refine ⟨hm, flatU D, fun i b => ∃ x, D[i]? = some x ∧ x.S b, own_lower hr (Nat.zero_le _), fun g hg => hS g (own_base hr g hg) (own_lt' hr hg), fun i u hi => ?_, fun i j b hi hj hij => ?_⟩
  · rw [List.getElem?_map] at hi
    cases hx : D[i]? with
    | none => rw [hx] at hi; cases hi
    | some x =>
      rw [hx] at hi
      obtain rfl : x.u = u := Option.some.inj hi
      have hw := hz x.u (List.mem_map.2 ⟨x, hlt hx, rfl⟩)
      have hw2 : x.u.wt = x.u.name.size + (x.u.incs.length + wtS x.u.incs) + (x.u.axs.length + wtS x.u.axs) + x.u.goal.size := rfl
      refine ⟨?_, fun b ⟨y, hy, hb⟩ => ?_⟩
      · rw [flatU_cut D hx]
        refine ((h.each x (hlt hx)).un (by omega) (by omega) (fun s hs => ?_) (fun s hs => ?_)).mono (SameOn.refl _ _) (fun b hb => ⟨x, hx, hb⟩)
        · have := wtS_le _ s hs; omega
        · have := wtS_le _ s hs; omega
      · obtain rfl : x = y := Option.some.inj (hx.symm.trans hy)
        have := (h.each x (hlt hx)).blk hb
        exact ⟨hS b this.1 this.2, h.far x (hlt hx) b hb⟩
  · rintro ⟨x, hx, hb⟩ ⟨y, hy, hb2⟩
    rw [List.length_map] at hi hj
    obtain ⟨_, rfl⟩ := List.getElem?_eq_some_iff.1 hx
    obtain ⟨_, rfl⟩ := List.getElem?_eq_some_iff.1 hy
    rcases Nat.lt_or_gt_of_ne hij with hlt' | hlt'
    · exact List.pairwise_iff_getElem.1 h.pair i j hi hj hlt' b hb hb2
    · exact List.pairwise_iff_getElem.1 h.pair j i hj hi hlt' b hb2 hb
end
end Go.Proofs.YtkgfanajgdelcaaGreatDoor
namespace Go.Proofs.YtkgfanajgdelcaaGreatDoor
open Go.RowKit
theorem after_eq {o : Oper} {u u' : Nat → Value} {p : Nat} (hu : ∀ e ∈ o.after, Region.binds .any e = true → u' e.on = u e.on) (h : (o.after.any fun e => Region.binds .any e && e.on == p) = true) : u' p = u p := by
  obtain ⟨e, he1, he2⟩ := Array.any_eq_true'.1 h
  simp only [Bool.and_eq_true, beq_iff_eq] at he2
  rw [← he2.2]; exact hu e he1 he2.1
theorem after_behind {o : Oper} {L : Array Bool} {p : Nat} (hb : Behind .any o L) (h : (o.after.any fun e => Region.binds .any e && e.on == p) = true) : L.getD p false = true := by
  obtain ⟨e, he1, he2⟩ := Array.any_eq_true'.1 h
  simp only [Bool.and_eq_true, beq_iff_eq] at he2
  rw [← he2.2]; exact hb e he1 he2.1
theorem getD_now {L : Array Bool} {k : Nat} (h : L.getD k true = false) : (L.setIfInBounds k true).getD k false = true := by
  have hlt : k < L.size := by
    rcases Nat.lt_or_ge k L.size with h' | h'
    · exact h'
    · simp [Array.getElem?_eq_none h'] at h
  simp [hlt]
/-- Operations 0 (the empty row), 4 (what stands ahead), 6 (the element's own slice), 7 (the element), 11 (what stands behind), 12 (the answer). -/
structure InsD (e : TypeId) (sz : Nat) (W : World) (i n : Nat) (A B : List Value) (cs : Array Value) (u : Nat → Value) (L : Array Bool) (w : World) : Prop where
  bel : Below W.heap.size W w
  o4 : L.getD 4 false = true → L.getD 0 false = true
  o7 : L.getD 7 false = true → L.getD 4 false = true ∧ L.getD 6 false = true
  o11 : L.getD 11 false = true → L.getD 7 false = true
  o12 : L.getD 12 false = true → L.getD 11 false = true
  r0 : L.getD 0 false = true → L.getD 4 false = false → w.ownsRow W.heap.size e sz (u 0) 0 []
  r4 : L.getD 4 false = true → L.getD 7 false = false → w.ownsRow W.heap.size e sz (u 4) i A
  r6 : L.getD 6 false = true → L.getD 7 false = false → ∃ g, u 6 = .slice (some ⟨g, 0, none⟩) 1 1 ∧ w.heap[g]? = some (.cells cs e (0, 0)) ∧ (L.getD 0 false = true → L.getD 4 false = false → (u 0).ownBlock ≠ some g) ∧ (L.getD 4 false = true → (u 4).ownBlock ≠ some g)
  r7 : L.getD 7 false = true → L.getD 11 false = false → w.ownsRow W.heap.size e sz (u 7) (i + 1) (A ++ cs.toList)
  r11 : L.getD 11 false = true → w.ownsRow W.heap.size e sz (u 11) n (A ++ cs.toList ++ B)
  r12 : L.getD 12 false = true → u 12 = u 11
section
variable {e : TypeId} {sz : Nat} {W w w' : World} {i n : Nat} {A B : List Value} {cs : Array Value} {u : Nat → Value} {L : Array Bool} {v' : Value}
theorem InsD.start (hL : ∀ i, L.getD i false = false) : InsD e sz W i n A B cs (fun _ => undef) L W.drew := by
  refine ⟨(Below.refl _ _).drew, ?_, ?_, ?_, ?_, ?_, ?_, ?_, ?_, ?_, ?_⟩ <;> (intro h; exact absurd h (by rw [hL]; decide))
theorem InsD.other (h : InsD e sz W i n A B cs u L w) (k : Nat) (hk : k ∉ [0, 4, 6, 7, 11, 12]) : InsD e sz W i n A B cs u (L.setIfInBounds k true) w := by
  simp only [List.mem_cons, List.not_mem_nil, or_false, not_or] at hk
  obtain ⟨k0, k4, k6, k7, k11, k12⟩ := hk
  obtain ⟨h1, h2, h3, h4, h5, h6, h7, h8, h9, h10, h11⟩ := h
  refine ⟨h1, ?_, ?_, ?_, ?_, ?_, ?_, ?_, ?_, ?_, ?_⟩ <;> simp only [getD_set_ne false k0, getD_set_ne false k4, getD_set_ne false k6, getD_set_ne false k7, getD_set_ne false k11, getD_set_ne false k12] <;> assumption
theorem InsD.b0 (h : InsD e sz W i n A B cs u L w) (hun : L.getD 0 true = false) : InsD e sz W i n A B cs (upd u 0 (.slice (some ⟨w.heap.size, 0, none⟩) 0 0)) (L.setIfInBounds 0 true) (w.alloc (.cells #[] e)) := by
  have hb := (Below.refl w.heap.size w).alloc (Nat.le_refl _) (.cells #[] e)
  have hn := getD_tf hun
  obtain ⟨h1, h2, h3, h4, h5, h6, h7, h8, h9, h10, h11⟩ := h
  refine ⟨h1.alloc h1.size _, ?_, ?_, ?_, ?_, ?_, ?_, ?_, ?_, ?_, ?_⟩ <;> simp only [getD_set_ne false (show (0 : Nat) ≠ 4 by decide), getD_set_ne false (show (0 : Nat) ≠ 6 by decide), getD_set_ne false (show (0 : Nat) ≠ 7 by decide), getD_set_ne false (show (0 : Nat) ≠ 11 by decide), getD_set_ne false (show (0 : Nat) ≠ 12 by decide), getD_now hun, upd_same, upd_other u _ (show (4 : Nat) ≠ 0 by decide), upd_other u _ (show (6 : Nat) ≠ 0 by decide), upd_other u _ (show (7 : Nat) ≠ 0 by decide), upd_other u _ (show (11 : Nat) ≠ 0 by decide), upd_other u _ (show (12 : Nat) ≠ 0 by decide)]
  · intro _; trivial
  · exact h3
  · exact h4
  · exact h5
  · intro _ _; exact row_empty w _ e sz h1.size
  · intro a b; exact own_below (h7 a b) hb
  · intro a b
    obtain ⟨g, e1, e2, e3, e4⟩ := h8 a b
    have hg := blk_lt e2
    exact ⟨g, e1, (hb.block g hg).trans e2, fun _ _ => by simp only [Value.ownBlock, ne_eq, Option.some.injEq]; omega, e4⟩
  · intro a b; exact own_below (h9 a b) hb
  · intro a; exact own_below (h10 a) hb
  · exact h11
theorem InsD.a4 (h : InsD e sz W i n A B cs u L w) (hun : L.getD 4 true = false) (h0 : L.getD 0 false = true) (hr : w'.ownsRow W.heap.size e sz v' (0 + i) ([] ++ A)) (hg : w.grownBy w' (u 0).ownBlock) (hnr : NewRow (u 0) v' w.heap.size) : InsD e sz W i n A B cs (upd u 4 v') (L.setIfInBounds 4 true) w' := by
  have hn := getD_tf hun
  obtain ⟨h1, h2, h3, h4, h5, h6, h7, h8, h9, h10, h11⟩ := h
  have n7 : L.getD 7 false = false := by
    cases h' : L.getD 7 false with
    | false => rfl
    | true => have := (h3 h').1; rw [hn] at this; cases this
  have n11 : L.getD 11 false = false := by
    cases h' : L.getD 11 false with
    | false => rfl
    | true => have := h4 h'; rw [n7] at this; cases this
  have n12 : L.getD 12 false = false := by
    cases h' : L.getD 12 false with
    | false => rfl
    | true => have := h5 h'; rw [n11] at this; cases this
  have ho := h6 h0 hn
  rw [Nat.zero_add, List.nil_append] at hr
  refine ⟨h1.grown hg h1.size (fun k hk => own_base ho k hk), ?_, ?_, ?_, ?_, ?_, ?_, ?_, ?_, ?_, ?_⟩ <;> simp only [getD_set_ne false (show (4 : Nat) ≠ 0 by decide), getD_set_ne false (show (4 : Nat) ≠ 6 by decide), getD_set_ne false (show (4 : Nat) ≠ 7 by decide), getD_set_ne false (show (4 : Nat) ≠ 11 by decide), getD_set_ne false (show (4 : Nat) ≠ 12 by decide), getD_now hun, n7, n11, n12, upd_same, upd_other u _ (show (0 : Nat) ≠ 4 by decide), upd_other u _ (show (6 : Nat) ≠ 4 by decide), upd_other u _ (show (7 : Nat) ≠ 4 by decide), upd_other u _ (show (11 : Nat) ≠ 4 by decide), upd_other u _ (show (12 : Nat) ≠ 4 by decide)]
  · intro _; exact h0
  · intro h; cases h
  · intro h; cases h
  · intro h; cases h
  · intro _ h; cases h
  · intro _ _; exact hr
  · intro a _
    obtain ⟨g, e1, e2, e3, e4⟩ := h8 a n7
    have hgl := blk_lt e2
    refine ⟨g, e1, (hg.block g hgl (fun e => e3 h0 hn e.symm)).trans e2, fun _ h => (by cases h), fun _ => newRow_ne hnr hgl (e3 h0 hn)⟩
  · intro h; cases h
  · intro h; cases h
  · intro h; cases h
theorem InsD.b6 (h : InsD e sz W i n A B cs u L w) (hun : L.getD 6 true = false) : InsD e sz W i n A B cs (upd u 6 (.slice (some ⟨w.heap.size, 0, none⟩) 1 1)) (L.setIfInBounds 6 true) (w.alloc (.cells cs e)) := by
  have hb := (Below.refl w.heap.size w).alloc (Nat.le_refl _) (.cells cs e)
  have hn := getD_tf hun
  obtain ⟨h1, h2, h3, h4, h5, h6, h7, h8, h9, h10, h11⟩ := h
  have n7 : L.getD 7 false = false := by
    cases h' : L.getD 7 false with
    | false => rfl
    | true => have := (h3 h').2; rw [hn] at this; cases this
  refine ⟨h1.alloc h1.size _, ?_, ?_, ?_, ?_, ?_, ?_, ?_, ?_, ?_, ?_⟩ <;> simp only [getD_set_ne false (show (6 : Nat) ≠ 4 by decide), getD_set_ne false (show (6 : Nat) ≠ 0 by decide), getD_set_ne false (show (6 : Nat) ≠ 7 by decide), getD_set_ne false (show (6 : Nat) ≠ 11 by decide), getD_set_ne false (show (6 : Nat) ≠ 12 by decide), getD_now hun, upd_same, upd_other u _ (show (4 : Nat) ≠ 6 by decide), upd_other u _ (show (0 : Nat) ≠ 6 by decide), upd_other u _ (show (7 : Nat) ≠ 6 by decide), upd_other u _ (show (11 : Nat) ≠ 6 by decide), upd_other u _ (show (12 : Nat) ≠ 6 by decide)]
  · exact h2
  · intro h; rw [n7] at h; cases h
  · exact h4
  · exact h5
  · intro a b; exact own_below (h6 a b) hb
  · intro a b; exact own_below (h7 a b) hb
  · intro _ _
    exact ⟨_, rfl, heap_alloc_new w _, fun a b => (fun e => by have := own_lt' (h6 a b) e; omega), fun a => (fun e => by have := own_lt' (h7 a n7) e; omega)⟩
  · intro a b; exact own_below (h9 a b) hb
  · intro a; exact own_below (h10 a) hb
  · exact h11
theorem InsD.a7 (h : InsD e sz W i n A B cs u L w) (hun : L.getD 7 true = false) (k4 : L.getD 4 false = true) (k6 : L.getD 6 false = true) (hr : w'.ownsRow W.heap.size e sz v' (i + 1) (A ++ cs.toList)) (hg : w.grownBy w' (u 4).ownBlock) : InsD e sz W i n A B cs (upd u 7 v') (L.setIfInBounds 7 true) w' := by
  have hn := getD_tf hun
  obtain ⟨h1, h2, h3, h4, h5, h6, h7, h8, h9, h10, h11⟩ := h
  have n11 : L.getD 11 false = false := by
    cases h' : L.getD 11 false with
    | false => rfl
    | true => have := h4 h'; rw [hn] at this; cases this
  have n12 : L.getD 12 false = false := by
    cases h' : L.getD 12 false with
    | false => rfl
    | true => have := h5 h'; rw [n11] at this; cases this
  have ho := h7 k4 hn
  refine ⟨h1.grown hg h1.size (fun k hk => own_base ho k hk), ?_, ?_, ?_, ?_, ?_, ?_, ?_, ?_, ?_, ?_⟩ <;> simp only [getD_set_ne false (show (7 : Nat) ≠ 0 by decide), getD_set_ne false (show (7 : Nat) ≠ 6 by decide), getD_set_ne false (show (7 : Nat) ≠ 4 by decide), getD_set_ne false (show (7 : Nat) ≠ 11 by decide), getD_set_ne false (show (7 : Nat) ≠ 12 by decide), getD_now hun, n11, n12, k4, k6, upd_same, upd_other u _ (show (0 : Nat) ≠ 7 by decide), upd_other u _ (show (6 : Nat) ≠ 7 by decide), upd_other u _ (show (4 : Nat) ≠ 7 by decide), upd_other u _ (show (11 : Nat) ≠ 7 by decide), upd_other u _ (show (12 : Nat) ≠ 7 by decide)]
  · intro _; exact h2 k4
  · intro _; exact ⟨trivial, trivial⟩
  · intro h; cases h
  · intro h; cases h
  · intro _ h; cases h
  · intro _ h; cases h
  · intro _ h; cases h
  · intro _ _; exact hr
  · intro h; cases h
  · intro h; cases h
theorem InsD.a11 (h : InsD e sz W i n A B cs u L w) (hun : L.getD 11 true = false) (k7 : L.getD 7 false = true) (hr : w'.ownsRow W.heap.size e sz v' n (A ++ cs.toList ++ B)) (hg : w.grownBy w' (u 7).ownBlock) : InsD e sz W i n A B cs (upd u 11 v') (L.setIfInBounds 11 true) w' := by
  have hn := getD_tf hun
  obtain ⟨h1, h2, h3, h4, h5, h6, h7, h8, h9, h10, h11⟩ := h
  have n12 : L.getD 12 false = false := by
    cases h' : L.getD 12 false with
    | false => rfl
    | true => have := h5 h'; rw [hn] at this; cases this
  have ho := h9 k7 hn
  obtain ⟨k4, k6⟩ := h3 k7
  refine ⟨h1.grown hg h1.size (fun k hk => own_base ho k hk), ?_, ?_, ?_, ?_, ?_, ?_, ?_, ?_, ?_, ?_⟩ <;> simp only [getD_set_ne false (show (11 : Nat) ≠ 0 by decide), getD_set_ne false (show (11 : Nat) ≠ 6 by decide), getD_set_ne false (show (11 : Nat) ≠ 4 by decide), getD_set_ne false (show (11 : Nat) ≠ 7 by decide), getD_set_ne false (show (11 : Nat) ≠ 12 by decide), getD_now hun, n12, k4, k6, k7, upd_same, upd_other u _ (show (0 : Nat) ≠ 11 by decide), upd_other u _ (show (6 : Nat) ≠ 11 by decide), upd_other u _ (show (4 : Nat) ≠ 11 by decide), upd_other u _ (show (7 : Nat) ≠ 11 by decide), upd_other u _ (show (12 : Nat) ≠ 11 by decide)]
  · intro _; exact h2 k4
  · intro _; exact ⟨trivial, trivial⟩
  · intro _; trivial
  · intro h; cases h
  · intro _ h; cases h
  · intro _ h; cases h
  · intro _ h; cases h
  · intro _ h; cases h
  · intro _; exact hr
  · intro h; cases h
theorem InsD.m12 (h : InsD e sz W i n A B cs u L w) (hun : L.getD 12 true = false) (k11 : L.getD 11 false = true) : InsD e sz W i n A B cs (upd u 12 (u 11)) (L.setIfInBounds 12 true) w := by
  obtain ⟨h1, h2, h3, h4, h5, h6, h7, h8, h9, h10, h11⟩ := h
  refine ⟨h1, ?_, ?_, ?_, ?_, ?_, ?_, ?_, ?_, ?_, ?_⟩ <;> simp only [getD_set_ne false (show (12 : Nat) ≠ 0 by decide), getD_set_ne false (show (12 : Nat) ≠ 6 by decide), getD_set_ne false (show (12 : Nat) ≠ 4 by decide), getD_set_ne false (show (12 : Nat) ≠ 7 by decide), getD_set_ne false (show (12 : Nat) ≠ 11 by decide), getD_now hun, upd_same, upd_other u _ (show (0 : Nat) ≠ 12 by decide), upd_other u _ (show (6 : Nat) ≠ 12 by decide), upd_other u _ (show (4 : Nat) ≠ 12 by decide), upd_other u _ (show (7 : Nat) ≠ 12 by decide), upd_other u _ (show (11 : Nat) ≠ 12 by decide)] <;> first | assumption | (intro _; first | exact k11 | trivial)
end
end Go.Proofs.YtkgfanajgdelcaaGreatDoor
namespace Go.Proofs.YtkgfanajgdelcaaGreatDoor
open Go.RowKit
theorem strW_take (l : List ByteArray) (k : Nat) : strW (l.take k) = (strW l).take k := by simp [strW, List.map_take]
theorem strW_drop (l : List ByteArray) (k : Nat) : strW (l.drop k) = (strW l).drop k := by simp [strW, List.map_drop]
theorem strW_cell (l : List ByteArray) : ∀ u ∈ strW l, u.oneCell' = true := by
  intro u hu
  rw [strW, List.mem_map] at hu
  obtain ⟨s, -, rfl⟩ := hu
  rfl
theorem strW_app (a b : List ByteArray) : strW (a ++ b) = strW a ++ strW b := by simp [strW]
theorem strW_cons (a : ByteArray) (b : List ByteArray) : strW (a :: b) = Value.string a :: strW b := rfl
theorem srcS_head {w : World} {base : Nat} {e : TypeId} {g c k : Nat} {l : List ByteArray} (h : w.ownsRow base e 1 (.slice (some ⟨g, 0, none⟩) l.length c) l.length (strW l)) (hk : k ≤ l.length) (c' : Nat) : SrcIs w 1 (.slice (some ⟨g, 0, none⟩) k c') k (strW (l.take k)) := by
  have := src_head h hk c'
  rw [Nat.mul_one] at this
  rw [strW_take]; exact this
theorem srcS_tail' {w w' : World} {base : Nat} {e : TypeId} {g c k m : Nat} {l : List ByteArray} (h : w.ownsRow base e 1 (.slice (some ⟨g, 0, none⟩) l.length c) l.length (strW l)) (hk : k ≤ l.length) (c' : Nat) (hm : m = l.length - k) (hb : Below w.heap.size w w') : SrcIs w' 1 (.slice (some ⟨g, k, none⟩) (l.length - k) c') m (strW (l.drop k)) := by
  have := (src_tail h hk c').below hb
  rw [Nat.mul_one] at this
  rw [strW_drop, hm]; exact this
theorem src_all {w : World} {base : Nat} {e : TypeId} {size g n c : Nat} {xs : List Value} (h : w.ownsRow base e size (.slice (some ⟨g, 0, none⟩) n c) n xs) : SrcIs w size (.slice (some ⟨g, 0, none⟩) n c) n xs := by
  have := src_head h (Nat.le_refl n) c
  rwa [← h.1, List.take_length] at this
def PutRel (l : List ByteArray) (x : ByteArray) (w : World) (i : Value) (wr : World) : Prop := ∃ k : Nat, k ≤ l.length ∧ i = .int .i64 k ∧ (∀ y ∈ l.take k, lessB y x = true) ∧ wr = w
end Go.Proofs.YtkgfanajgdelcaaGreatDoor
namespace Go.Proofs.YtkgfanajgdelcaaGreatDoor
open Go.RowKit
/-! ### Reading -/
def u0 : Un := ⟨⟨#[]⟩, [], [], ⟨#[]⟩⟩
/-! ### Weights -/
theorem wtS_snoc : ∀ (us : List ByteArray) (a : ByteArray), wtS (us ++ [a]) = wtS us + a.size
  | [], a => by simp [wtS]
  | b :: us, a => by rw [List.cons_append, wtS, wtS, wtS_snoc us a]; omega
end Go.Proofs.YtkgfanajgdelcaaGreatDoor
