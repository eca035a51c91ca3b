import Derived.Test.YtmbkjdkjemlfkaaGreatDoorDfPart35
namespace Go.Proofs.YtmbkjdkjemlfkaaGreatDoor
set_option maxRecDepth 100000
open Go.RowKit
def CallP (us : List ByteArray) (base g : Nat) (uv : Value) (n : Nat) (f : Fm) (b : Bool) (k : Nat) (E : List Dfn) (X : Nat → Prop) (lo : Nat) (v : Value) (F : Nat → Prop) (w' : World) : Prop :=
  ∃ (y : FC) (X2 : Nat → Prop) (lv : Value) (D : List DC), v = .tuple #[.agg y.cs.toArray, lv] ∧ y.f = (dfn (inS us) vfD f b k).1 ∧ FmAt (fun b => lo ≤ b ∧ F b ∧ ¬ X2 b) n w' y.f y.cs ∧ SSt us base g (dfn (inS us) vfD f b k).2.1 (E ++ (dfn (inS us) vfD f b k).2.2) uv lv D X2 w' ∧ (∀ b, X2 b → F b) ∧ (∀ b, X2 b → X b ∨ lo ≤ b)
theorem CallP.be {us : List ByteArray} {base g : Nat} {uv : Value} {n : Nat} {f : Fm} {b : Bool} {k : Nat} {E : List Dfn} {X : Nat → Prop} {lo : Nat} (v : Value) (F : Nat → Prop) (w w' : World) (hb : Below w.heap.size w w') (h : CallP us base g uv n f b k E X lo v F w) : CallP us base g uv n f b k E X lo v F w' := by
  obtain ⟨y, X2, lv, D, h1, h2, h3, h4, h5⟩ := h
  exact ⟨y, X2, lv, D, h1, h2, FmAt.below hb h3, h4.be hb, h5⟩
def PartR (u : Nat → Value) (w0 w : World) : Prop := ∃ (kk : Nat) (y : FC), u 14 = .pointer (some ⟨kk, 0, none⟩) ∧ u 12 = .agg y.cs.toArray ∧ w = set5C w0 kk (.int .i64 y.f.op) (.string y.f.a.n) (.slice y.p y.f.a.us.length y.c) (.string y.f.v) (.slice y.q y.f.ps.length y.d)
def PartT : DetL := [(11, 10, fun v => v), (12, 11, fstV), (13, 11, sndV), (16, 13, fun v => v)]
theorem PartR.upd {i : Nat} {u : Nat → Value} {w0 w : World} {x : Value} (h1 : i ≠ 14) (h2 : i ≠ 12) (h : PartR u w0 w) : PartR (Proofs.YtmbkjdkjemlfkaaGreatDoor.upd u i x) w0 w := by
  obtain ⟨kk, y, a, b, c⟩ := h
  exact ⟨kk, y, by rw [upd_other _ _ (Ne.symm h1)]; exact a, by rw [upd_other _ _ (Ne.symm h2)]; exact b, c⟩
theorem leafs_own {w : World} {base : Nat} {e : TypeId} {v : Value} {l : List ByteArray} (h : w.ownsRow base e 2 v l.length (flatT (l.map leafC))) (hs : ∀ s ∈ l, s.size ≤ maxLen) (hl : l.length ≤ maxLen) : ListAt (fun b => v.ownBlock = some b) w 2 (TmAt (fun b => v.ownBlock = some b) 1 w) v (l.map leafT) := by
  obtain ⟨p, c, rfl⟩ := own_slice h
  refine ⟨p, c, by rw [List.length_map], by rw [List.length_map]; exact hl, fun i x hx => ?_⟩
  rw [List.getElem?_map] at hx
  cases hy : l[i]? with
  | none => rw [hy] at hx; cases hx
  | some y =>
    rw [hy] at hx
    obtain rfl : leafT y = x := Option.some.inj hx
    have hi := (List.getElem?_eq_some_iff.1 hy).1
    obtain ⟨g, rfl, h1, h2, h3⟩ := rowT_cell (D := l.map leafC) h (by omega)
    obtain ⟨c0, c1⟩ := h3 i (leafC y) (by rw [List.getElem?_map, hy]; rfl)
    refine ⟨g, 0, rfl, rfl, [.string y, .slice none 0 0], rfl, fun j hj => ?_, ⟨_, rfl, hs y (List.mem_of_getElem? hy), ListAt.nil _ _ _ _ _ _⟩⟩
    match j, hj with
    | 0, _ => rw [Nat.zero_add, Nat.add_zero]; exact c0
    | 1, _ => rw [Nat.zero_add]; exact c1
def RetSt (e : TypeId) (size : Nat) (v : Value) (n : Nat) (cs : Array Value) (W : World) (r : Nat) (x0 x1 x2 x3 x4 : Value) : Nat → (Nat → Value) → World → Prop
  | 0, _, w => w = W
  | 1, u, w => w = W.alloc (.cells cs e) ∧ u 4 = .slice (some ⟨W.heap.size, 0, none⟩) 1 1
  | 2, u, w => Apped e size v n cs W (u 5) w
  | 3, u, w => ∃ w2, Apped e size v n cs W (u 5) w2 ∧ w = set5C w2 r x0 x1 x2 x3 x4
  | _ + 4, u, w => (∃ w2, Apped e size v n cs W (u 5) w2 ∧ w = set5C w2 r x0 x1 x2 x3 x4) ∧ u 7 = u 5
theorem RetSt.keep {e : TypeId} {size : Nat} {v : Value} {n : Nat} {cs : Array Value} {W : World} {r : Nat} {x0 x1 x2 x3 x4 : Value} {j : Nat} {u : Nat → Value} {w : World} (h : RetSt e size v n cs W r x0 x1 x2 x3 x4 j u w) (hj : j ≤ 2) {b : Nat} (hb : b < W.heap.size) (hv : v.ownBlock ≠ some b) : w.heap[b]? = W.heap[b]? := by
  match j, hj, h with
  | 0, _, h => obtain rfl : w = W := h; rfl
  | 1, _, h => obtain ⟨rfl, _⟩ := h; exact hao W _ b hb
  | 2, _, h => exact h.2.1.block b hb (fun e => hv e.symm)
set_option maxHeartbeats 12800000 in
theorem l9Define_any (us : List ByteArray) (base g : Nat) (uv : Value) (hS : ∀ j, 99999 < j → inS us (dNm j) = false) : ∀ (m : Nat) (B : Nat → Prop) (t : Fm) (b : Bool) (k : Nat) (E : List Dfn) (lv : Value) (D : List DC) (X : Nat → Prop) (w : World) (s : Nat) (v0 v1 v2 v3 v4 : Value),
    FmAt B m w t [v0, v1, v2, v3, v4] → (∀ b, B b → ¬ X b) → t.okD = true → t.wt ≤ 1000000 → t.nn + t.sz ≤ 100000 → SSt us base g k E uv lv D X w → base ≤ w.heap.size → k ≤ 100000 + s → s + t.sz ≤ 10000 → E.length + t.sz ≤ 10000 →
    Calls Tryz.prog 19 #[.agg #[v0, v1, v2, v3, v4], .bool b, .pointer (some ⟨g, 0, none⟩), lv] w (SpQ us base g uv (m + 3) t b k E X w) := by
  intro m
  induction m with
  | zero => intro B t b k E lv D X w s v0 v1 v2 v3 v4 h; exact h.elim
  | succ m ih =>
    rintro B ⟨op, a, xv, ps⟩ b k E lv D X w s v0 v1 v2 v3 v4 h hBX hok hw hnn hd hbw hks hsz hEl
    have h := FmAt.inb _ _ _ h
    obtain ⟨vn, va, vp, hcs, hop, hs, ht, hl⟩ := h
    simp only [List.cons.injEq, and_true] at hcs
    obtain ⟨rfl, rfl, rfl, rfl, rfl⟩ := hcs
    obtain ⟨p, pc, rfl, rfl, -⟩ := ht.form
    obtain ⟨pq, pd, rfl, hlen⟩ := hl.form
    unfold maxLen at hlen
    have hok0 := hok
    have hnn0 := hnn
    rw [Fm.okD, Bool.and_eq_true, Bool.and_eq_true] at hok
    rw [Fm.nn, Fm.sz] at hnn
    rw [Fm.sz] at hsz hEl
    have hwp := hw
    rw [Fm.wt] at hwp
    have HT0 := Lib.hid (TmAt.inb _ _ _ ht)
    have HL := Lib.hid hl
    have IH := Lib.hid ih
    have HOP := Lib.hid (And.intro hop hs)
    have HBX := Lib.hid hBX
    have HOKS := Lib.hid hok.2
    have HD0 := Lib.hid hd
    obtain ⟨W, hW⟩ : ∃ W : World, W = (w.alloc (.cells #[.int .i64 op, .string a.n, .slice p a.us.length pc, .string xv, .slice pq ps.length pd] 29)).alloc (.cells #[.int .i64 0, .string ⟨#[]⟩, .slice none 0 0, .string ⟨#[]⟩, .slice none 0 0] 29) := ⟨_, rfl⟩
    obtain ⟨hsW, hbW, A0, A1⟩ := two_new hW
    obtain ⟨a0, a1, a2, a3, a4⟩ := five_at A0
    have za := bsz (show w.heap.size < W.heap.size by omega)
    have HTW := Lib.hid (TmAt.below hbW HT0.out)
    have HA0 := Lib.hid A0
    have HR0 := Lib.hid A1
    have HBW := Lib.hid hbW
    have HIX := Lib.hid (show ∀ b, X b → b < w.heap.size from hd.foot)
    have HXG := Lib.hid hd.xg
    clear ht hl ih hop hs hBX hd hok
    go_enter Tryz.func19, Tryz.ntmps19
    go_wp2_with fail
    rw [← hW]
    clear hW
    refine wp_region_any3 [some (.pointer (some ⟨w.heap.size, 0, none⟩)), some (.int .i64 op), some (.pointer (some ⟨w.heap.size, 1, none⟩)), some (.agg #[.string a.n, .slice p a.us.length pc]), none, some (.pointer (some ⟨w.heap.size, 3, none⟩)), some (.string xv), none, none, none] (MkH 29 m W op xv a) (by kernel_rfl) (by kernel_rfl) (fun L hL => MkH.start hL) ?_
    go_simp
    clear a0 a1 a2 a3 a4 za
    refine flowV_st rfl rfl (by intro u' L w' hun hbe hD; go_simp; first | exact ⟨hD.other 0 (by decide), rfl⟩ | exact hD.other 0 (by decide)) ?_
    go_simp
    refine flowV_st rfl rfl (by intro u' L w' hun hbe hD; have hw' := hD.bel; obtain ⟨e0, e1, e2, e3, e4⟩ := five_at ((hw'.block w.heap.size (by have := HBW.out.size; omega)).trans HA0.out); have ze := bsz (World.block_lt_of_cell? _ _ e0); go_simp; first | exact ⟨hD.other 1 (by decide), rfl⟩ | exact hD.other 1 (by decide)) ?_
    go_simp
    refine flowV_st rfl rfl (by intro u' L w' hun hbe hD; go_simp; first | exact ⟨hD.other 2 (by decide), rfl⟩ | exact hD.other 2 (by decide)) ?_
    go_simp
    refine flowV_st rfl rfl (by intro u' L w' hun hbe hD; have hw' := hD.bel; obtain ⟨e0, e1, e2, e3, e4⟩ := five_at ((hw'.block w.heap.size (by have := HBW.out.size; omega)).trans HA0.out); have ze := bsz (World.block_lt_of_cell? _ _ e0); go_simp; first | exact ⟨hD.other 3 (by decide), rfl⟩ | exact hD.other 3 (by decide)) ?_
    go_simp
    refine flowV_ch rfl rfl (by
      intro u' hu' L w' hun hbe hD
      go_simp
      refine (l2Own_any m a _ _ w' (TmAt.below hD.bel HTW.out) (by omega)).mono ?_
      rintro e w'' ⟨u0, u1, he, hO, hb'⟩
      obtain ⟨pn, cn, rfl, rfl, -⟩ := hO.form
      exact ⟨_, he, hD.c10 hun (TmOwn.at_ _ _ _ hO) hb'⟩) ?_
    intro x4
    go_simp
    refine flowV_st rfl rfl (by intro u' L w' hun hbe hD; go_simp; first | exact ⟨hD.other 5 (by decide), rfl⟩ | exact hD.other 5 (by decide)) ?_
    go_simp
    refine flowV_st rfl rfl (by intro u' L w' hun hbe hD; have hw' := hD.bel; obtain ⟨e0, e1, e2, e3, e4⟩ := five_at ((hw'.block w.heap.size (by have := HBW.out.size; omega)).trans HA0.out); have ze := bsz (World.block_lt_of_cell? _ _ e0); go_simp; first | exact ⟨hD.other 6 (by decide), rfl⟩ | exact hD.other 6 (by decide)) ?_
    go_simp
    refine flowV_ch rfl rfl (by
      intro u' hu' L w' hun hbe hD
      have h10 := after_behind hbe (p := 4) (by kernel_rfl)
      have hu10 : u' 4 = x4 := (after_eq hu' (by kernel_rfl)).trans (by simp [upd])
      obtain ⟨pn, cn, e1, -⟩ := hD.r10 h10
      have hm := hD.m11 hun h10 e1
      obtain rfl : x4 = _ := hu10.symm.trans e1
      (first | (go_simp; done) | (go_simp; exact hm))) ?_
    intro x7
    go_simp
    refine flowV_ch rfl rfl (by intro u' hu' L w' hun hbe hD; go_simp; exact hD.a12' hun) ?_
    intro x8
    go_simp
    refine flowV_ch rfl rfl (by
      intro u' hu' L w' hun hbe hD
      have h11 := after_behind hbe (p := 7) (by kernel_rfl)
      have h12 := after_behind hbe (p := 8) (by kernel_rfl)
      have hu11 : u' 7 = x7 := (after_eq hu' (by kernel_rfl)).trans (by simp [upd])
      have hu12 : u' 8 = x8 := (after_eq hu' (by kernel_rfl)).trans (by simp [upd])
      obtain ⟨k', e1, e2, e3, e4, -⟩ := hD.a12 h12
      obtain ⟨pn, cn, e6, -⟩ := hD.r10 (hD.o11 h11)
      have hs := hD.s13 (v' := undef) hun h11 h12 e6 e1
      have hv := hD.b11 h11 _ _ e6
      obtain rfl : x7 = _ := hu11.symm.trans hv
      obtain rfl : x8 = _ := hu12.symm.trans e1
      obtain ⟨d0, d1, d2, d3, d4⟩ := five_at (e4 (getD_tf hun))
      have df : ∀ j, w'.frozen? ⟨k', j, none⟩ = false := fun j => frozen_of_row w' k' j _ _ (e4 (getD_tf hun))
      have ze := bsz e3
      clear e1 e2 e3 e4 e6 hv hu11 hu12 hu'
      (first | (go_simp; done) | (go_simp; exact hs))) ?_
    intro x9
    refine flowV_nil ?_
    intro L w4 hL hD
    obtain ⟨bk, pb, cb, e1, hbk, hbox, htm, hb4⟩ := hD.done (fun i hi => by simpa using hL i (by simpa using hi))
    obtain rfl : x8 = .pointer (some ⟨bk, 0, none⟩) := by simpa [upd] using e1
    have hz4 := hb4.size
    have HTM := Lib.hid htm
    have HB4 := Lib.hid hb4
    have HBX4 := Lib.hid hbox
    have zk := bsz (blk_lt hbox)
    clear hL hD e1 htm hb4 hbox
    have HW4 := Lib.hid (Below.step HBW.out HB4.out)
    have hz4' := HW4.out.size
    obtain ⟨a0, a1, a2, a3, a4⟩ := five_at ((HB4.out.block w.heap.size (by omega)).trans HA0.out)
    have za := bsz (show w.heap.size < w4.heap.size by omega)
    go_wp2_with fail
    go_wp2
    clear a0 a1 a2 a3 a4 za zk
    have HSB := Lib.hid (HD0.out.be HW4.out)
    go_loopw [3, 11] (fun lvv iv wr => ∃ (i : Nat) (q : Option Addr) (d : Nat) (DF : List FC) (X1 : Nat → Prop) (lv1 : Value) (D1 : List DC), i ≤ ps.length ∧ iv = .int .i64 i ∧ lvv = lv1 ∧ DF.length = i ∧ DF.map (·.f) = (dfnL (inS us) vfD (ps.take i) (op == 6) k).1 ∧ FOm 29 (m + 3) w4.heap.size bk X1 (.int .i64 op) (.string a.n) (.slice pb a.us.length cb) (.string xv) (.slice q i d) DF wr ∧
      SSt us base g (dfnL (inS us) vfD (ps.take i) (op == 6) k).2.1 (E ++ (dfnL (inS us) vfD (ps.take i) (op == 6) k).2.2) uv lv1 D1 X1 wr ∧ (∀ b, X1 b → X b ∨ w4.heap.size ≤ b) ∧ Kp (fun b => X b ∨ b = bk) w4 wr) (fun _ iv _ => ps.length - (intOf iv).toNat)
    case atStart =>
      refine ⟨0, none, 0, [], X, _, D, Nat.zero_le _, rfl, rfl, rfl, by rw [List.take_zero, dfnL]; rfl, ⟨HBX4.out, ⟨by simp [flatF], .inl ⟨rfl, rfl⟩⟩, fun x hx => by simp at hx, blk_lt HBX4.out, fun e => by have := HIX.out _ e; omega, fun b e => by simp [Value.ownBlock] at e, by simp⟩, ?_, fun b e => .inl e, Kp.refl _ _⟩
      rw [List.take_zero, dfnL, List.append_nil]; exact HSB.out
    case round =>
      obtain ⟨i, q, d, DF, X1, lv1, D1, hi, rfl, hxv, hDi, hDm, hfo, hst, hxx, hkp⟩ := hrel
      replace hxv := hxv.symm
      subst hxv
      obtain ⟨RL, hRL⟩ : ∃ RL, RL = dfnL (inS us) vfD (ps.take i) (op == 6) k := ⟨_, rfl⟩
      have hnum := (dfnL_num (vf := vfD) hS (ps.take i) (op == 6) k s hks).2
      have hcnt := dfnL_cnt (S := inS us) (vf := vfD) (ps.take i) (op == 6) k
      rw [← hRL] at hDm hst hnum hcnt
      have HRL := Lib.hid hRL
      have HFO := Lib.hid hfo
      have HDI := Lib.hid hDi
      have HDM := Lib.hid hDm
      have HST := Lib.hid hst
      have HXX := Lib.hid hxx
      have HKP := Lib.hid hkp
      have hzr := hkp.size
      have HKW := Lib.hid (show ∀ b, b < w.heap.size → ¬ X b → wr.heap[b]? = w.heap[b]? from fun b h1 h2 => (hkp.block b (by omega) (fun e => e.elim h2 (fun e => by omega))).trans (HW4.out.block b h1))
      obtain ⟨c0, c1, c2, c3, c4, cf, ck⟩ := hfo.cells
      have zk := bsz ck
      have HA0r := Lib.hid ((hkp.block w.heap.size (by omega) (fun e => e.elim (fun e => by have := HIX.out _ e; omega) (fun e => by omega))).trans ((HB4.out.block _ (by omega)).trans HA0.out))
      obtain ⟨a0, a1, a2, a3, a4⟩ := five_at HA0r.out
      have za := bsz (show w.heap.size < wr.heap.size by omega)
      obtain ⟨pl, cl, hlv⟩ := own_slice hst.row
      subst hlv
      clear hfo hst hxx hkp hDi hDm hRL
      by_cases hlt : i < ps.length
      · have hlti : (i : Int) < ps.length := by omega
        have hsame : SameOn (fun b => B b ∧ b < w.heap.size) w wr := fun b hb hl => HKW.out b hl (HBX.out b hb.1)
        obtain ⟨eb, o, hpe, hBb, x0, x1, x2, x3, x4, hx0, hx1, hx2, hx3, hx4, hx⟩ := (HL.out.mono hsame (fun _ h => h) (fun x cs _ hx => FmAt.mono hsame (fun _ h => h) _ _ _ _ (Nat.le_refl _) hx)).at5 hlt
        have hyo := Fm.okDs_get HOKS.out hlt
        have hyw := Fm.wts_le ps hlt
        have hys := Fm.szs_le' hlt
        have hyn := Fm.nns_le' hlt
        obtain ⟨y, hy⟩ : ∃ y, ps[i] = y := ⟨_, rfl⟩
        have HTK := Lib.hid (show dfnL (inS us) vfD (ps.take (i + 1)) (op == 6) k = (RL.1 ++ [(dfn (inS us) vfD y (op == 6) RL.2.1).1], (dfn (inS us) vfD y (op == 6) RL.2.1).2.1, RL.2.2 ++ (dfn (inS us) vfD y (op == 6) RL.2.1).2.2) by
          rw [List.take_succ_eq_append_getElem hlt, dfnL_snoc, ← HRL.out, hy])
        rw [hy] at hx hyo hyw hys hyn
        have HX := Lib.hid hx
        have HYO := Lib.hid hyo
        have HX0 := Lib.hid (And.intro hx0 (And.intro hx1 (And.intro hx2 (And.intro hx3 hx4))))
        have hbb : eb < wr.heap.size := World.block_lt_of_cell? _ _ hx0
        have hbX : ¬ X1 eb := fun e => (HXX.out _ e).elim (HBX.out _ hBb.1) (fun e => by have := hBb.2; omega)
        have hwX : ¬ X1 w.heap.size := fun e => (HXX.out _ e).elim (fun e => by have := HIX.out _ e; omega) (fun e => by omega)
        have hXf := HST.out.foot
        have HXF := Lib.hid hXf
        have zb := bsz hbb
        subst hpe
        clear hx hy hsame hx0 hx1 hx2 hx3 hx4 c0 c1 c2 c3 c4 cf zk hyo hXf
        go_wp2_with fail
        go_wp2
        clear a0 a1 a2 a3 a4 za zb
        refine wp_region_acall [some (.pointer (some ⟨w.heap.size, 4, none⟩)), some (.slice (some ⟨eb, o, none⟩) ps.length pd), some (.int .i64 (i : Nat)), some (.pointer (some ⟨eb, o + i * 5, none⟩)), some (.agg #[x0, x1, x2, x3, x4]), some (.pointer (some ⟨w.heap.size, 0, none⟩)), some (.int .i64 op), some (.bool (op == 6)), some (.pointer (some ⟨g, 0, none⟩)), some (.slice pl D1.length cl), none, none, none, none, none, none, none] X1 10 14 15
          (fun w' => SSt us base g RL.2.1 (E ++ RL.2.2) uv (.slice pl D1.length cl) D1 X1 w') (.cells fmN 29) (CallP us base g uv (m + 3) y (op == 6) RL.2.1 (E ++ RL.2.2) X1 wr.heap.size) PartR PartT (by kernel_rfl) (by kernel_rfl) (HST.out.be ((Below.refl _ _).drew)) ?_
        go_simp
        refine flowV_st rfl rfl (by
          intro u' L w' hun hbe hD
          have hpr := hD.1.pre (n := 24) hun (by kernel_rfl)
          have hw' := hpr.2.1
          skip
          go_simp
          first | exact ⟨⟨hD.1.other rfl hbe (by decide) (by decide) (by decide), hD.2.other rfl⟩, rfl⟩ | exact ⟨hD.1.other rfl hbe (by decide) (by decide) (by decide), hD.2.other rfl⟩ | exact ⟨hD.1.other rfl hbe (by decide) (by decide) (by decide), hD.2.other rfl, rfl⟩) ?_
        go_simp
        refine flowV_st rfl rfl (by
          intro u' L w' hun hbe hD
          have hpr := hD.1.pre (n := 24) hun (by kernel_rfl)
          have hw' := hpr.2.1
          obtain ⟨e0, e1, e2, e3, e4⟩ := five_at ((hw'.block w.heap.size (by omega) hwX).trans HA0r.out); have ze := bsz (World.block_lt_of_cell? _ _ e0)
          go_simp
          first | exact ⟨⟨hD.1.other rfl hbe (by decide) (by decide) (by decide), hD.2.other rfl⟩, rfl⟩ | exact ⟨hD.1.other rfl hbe (by decide) (by decide) (by decide), hD.2.other rfl⟩ | exact ⟨hD.1.other rfl hbe (by decide) (by decide) (by decide), hD.2.other rfl, rfl⟩) ?_
        go_simp
        refine flowV_st rfl rfl (by
          intro u' L w' hun hbe hD
          have hpr := hD.1.pre (n := 24) hun (by kernel_rfl)
          have hw' := hpr.2.1
          skip
          go_simp
          first | exact ⟨⟨hD.1.other rfl hbe (by decide) (by decide) (by decide), hD.2.other rfl⟩, rfl⟩ | exact ⟨hD.1.other rfl hbe (by decide) (by decide) (by decide), hD.2.other rfl⟩ | exact ⟨hD.1.other rfl hbe (by decide) (by decide) (by decide), hD.2.other rfl, rfl⟩) ?_
        go_simp
        refine flowV_st rfl rfl (by
          intro u' L w' hun hbe hD
          have hpr := hD.1.pre (n := 24) hun (by kernel_rfl)
          have hw' := hpr.2.1
          skip
          go_simp
          first | exact ⟨⟨hD.1.other rfl hbe (by decide) (by decide) (by decide), hD.2.other rfl⟩, rfl⟩ | exact ⟨hD.1.other rfl hbe (by decide) (by decide) (by decide), hD.2.other rfl⟩ | exact ⟨hD.1.other rfl hbe (by decide) (by decide) (by decide), hD.2.other rfl, rfl⟩) ?_
        go_simp
        refine flowV_st rfl rfl (by
          intro u' L w' hun hbe hD
          have hpr := hD.1.pre (n := 24) hun (by kernel_rfl)
          have hw' := hpr.2.1
          have e0 := (World.cell?_of_block (a := ⟨eb, o + i * 5, none⟩) (hw'.block eb hbb hbX)).trans HX0.out.1; have e1 := (World.cell?_of_block (a := ⟨eb, o + i * 5 + 1, none⟩) (hw'.block eb hbb hbX)).trans HX0.out.2.1; have e2 := (World.cell?_of_block (a := ⟨eb, o + i * 5 + 2, none⟩) (hw'.block eb hbb hbX)).trans HX0.out.2.2.1; have e3 := (World.cell?_of_block (a := ⟨eb, o + i * 5 + 3, none⟩) (hw'.block eb hbb hbX)).trans HX0.out.2.2.2.1; have e4 := (World.cell?_of_block (a := ⟨eb, o + i * 5 + 4, none⟩) (hw'.block eb hbb hbX)).trans HX0.out.2.2.2.2; have ze := bsz (World.block_lt_of_cell? _ _ e0)
          go_simp
          first | exact ⟨⟨hD.1.other rfl hbe (by decide) (by decide) (by decide), hD.2.other rfl⟩, rfl⟩ | exact ⟨hD.1.other rfl hbe (by decide) (by decide) (by decide), hD.2.other rfl⟩ | exact ⟨hD.1.other rfl hbe (by decide) (by decide) (by decide), hD.2.other rfl, rfl⟩) ?_
        go_simp
        refine flowV_st rfl rfl (by
          intro u' L w' hun hbe hD
          have hpr := hD.1.pre (n := 24) hun (by kernel_rfl)
          have hw' := hpr.2.1
          skip
          go_simp
          first | exact ⟨⟨hD.1.other rfl hbe (by decide) (by decide) (by decide), hD.2.other rfl⟩, rfl⟩ | exact ⟨hD.1.other rfl hbe (by decide) (by decide) (by decide), hD.2.other rfl⟩ | exact ⟨hD.1.other rfl hbe (by decide) (by decide) (by decide), hD.2.other rfl, rfl⟩) ?_
        go_simp
        refine flowV_st rfl rfl (by
          intro u' L w' hun hbe hD
          have hpr := hD.1.pre (n := 24) hun (by kernel_rfl)
          have hw' := hpr.2.1
          obtain ⟨e0, e1, e2, e3, e4⟩ := five_at ((hw'.block w.heap.size (by omega) hwX).trans HA0r.out); have ze := bsz (World.block_lt_of_cell? _ _ e0)
          go_simp
          first | exact ⟨⟨hD.1.other rfl hbe (by decide) (by decide) (by decide), hD.2.other rfl⟩, rfl⟩ | exact ⟨hD.1.other rfl hbe (by decide) (by decide) (by decide), hD.2.other rfl⟩ | exact ⟨hD.1.other rfl hbe (by decide) (by decide) (by decide), hD.2.other rfl, rfl⟩) ?_
        go_simp
        refine flowV_st rfl rfl (by
          intro u' L w' hun hbe hD
          have hpr := hD.1.pre (n := 24) hun (by kernel_rfl)
          have hw' := hpr.2.1
          skip
          go_simp
          first | exact ⟨⟨hD.1.other rfl hbe (by decide) (by decide) (by decide), hD.2.other rfl⟩, rfl⟩ | exact ⟨hD.1.other rfl hbe (by decide) (by decide) (by decide), hD.2.other rfl⟩ | exact ⟨hD.1.other rfl hbe (by decide) (by decide) (by decide), hD.2.other rfl, rfl⟩) ?_
        go_simp
        refine flowV_st rfl rfl (by
          intro u' L w' hun hbe hD
          have hpr := hD.1.pre (n := 24) hun (by kernel_rfl)
          have hw' := hpr.2.1
          skip
          go_simp
          first | exact ⟨⟨hD.1.other rfl hbe (by decide) (by decide) (by decide), hD.2.other rfl⟩, rfl⟩ | exact ⟨hD.1.other rfl hbe (by decide) (by decide) (by decide), hD.2.other rfl⟩ | exact ⟨hD.1.other rfl hbe (by decide) (by decide) (by decide), hD.2.other rfl, rfl⟩) ?_
        go_simp
        refine flowV_st rfl rfl (by
          intro u' L w' hun hbe hD
          have hpr := hD.1.pre (n := 24) hun (by kernel_rfl)
          have hw' := hpr.2.1
          skip
          go_simp
          first | exact ⟨⟨hD.1.other rfl hbe (by decide) (by decide) (by decide), hD.2.other rfl⟩, rfl⟩ | exact ⟨hD.1.other rfl hbe (by decide) (by decide) (by decide), hD.2.other rfl⟩ | exact ⟨hD.1.other rfl hbe (by decide) (by decide) (by decide), hD.2.other rfl, rfl⟩) ?_
        go_simp
        refine flowV_ch rfl rfl (by
          intro u' hu' L w' hun hbe hD
          have hpr := hD.1.pre (n := 24) hun (by kernel_rfl)
          have hw' := hpr.2.1
          have hsz' := hw'.size
          have hJ := hpr.2.2.1 (getD_tf hun)
          go_simp
          refine (IH.out (fun b => B b ∧ b < w.heap.size) y (op == 6) RL.2.1 (E ++ RL.2.2) (.slice pl D1.length cl) D1 X1 w' (s + Fm.szs (ps.take i)) _ _ _ _ _ (FmAt.mono (fun b hb hl => hw'.block b hl (fun e => (HXX.out _ e).elim (HBX.out _ hb.1) (fun e => by have := hb.2; omega))) (fun _ h => h) _ _ _ _ (Nat.le_refl _) HX.out) (fun b hb e => (HXX.out _ e).elim (HBX.out _ hb.1) (fun e => by have := hb.2; omega)) HYO.out (by omega) (by omega) hJ (by omega) (by omega) (by omega) (by rw [List.length_append]; omega)).mono ?_
          rintro e w'' ⟨v, he, ⟨y', X2, lv2, D2, hv, hyf, hfm, hss, hxx2⟩, hk⟩
          exact ⟨v, he, hD.1.turn (n := 24) rfl hbe hun (by decide) (by decide) (by kernel_rfl) (fun b => X2 b ∨ (w'.heap.size ≤ b ∧ b < w''.heap.size)) ⟨y', X2, lv2, D2, hv, hyf, FmAt.mono (SameOn.refl _ _) (fun b hb => ⟨by have := hb.1; omega, .inr ⟨hb.1, hb.2.1⟩, hb.2.2⟩) _ _ _ _ (Nat.le_refl _) hfm, hss, fun b e => .inl e, fun b e => (hxx2 b e).imp id (fun e => by omega)⟩ (fun b e => e.elim (fun e => (hxx2 b e).imp id (fun e => e.1)) (fun e => .inr e.1)) (fun b e => e.elim (hss.foot b) (fun e => e.2)) HXF.out hk, hD.2.skip hun _ rfl⟩) ?_
        intro y10
        go_simp
        refine flowV_ch rfl rfl (by
          intro u' hu' L w' hun hbe hD
          have hu : u' 10 = y10 := (after_eq hu' (p := 10) (by kernel_rfl)).trans (by simp [upd])
          have hp := after_behind hbe (p := 10) (by kernel_rfl)
          have hcl := Lib.hid (And.intro (hD.1.pure (k := 11) rfl hbe (by decide) (by decide) (by decide) y10 (fun _ w0 h => h.upd (by decide) (by decide))) (hD.2.det (i := 11) (p := 10) (φ := fun v => v) hun hp y10 hu.symm (by intro t ht e; simp only [PartT, List.mem_cons, List.not_mem_nil, or_false] at ht; rcases ht with rfl | rfl | rfl | rfl <;> first | rfl | (simp at e))))
          go_simp
          exact hcl.out) ?_
        intro y11
        go_simp
        refine flowV_ch rfl rfl (by
          intro u' hu' L w' hun hbe hD
          have hu : u' 11 = y11 := (after_eq hu' (p := 11) (by kernel_rfl)).trans (by simp [upd])
          have hp := after_behind hbe (p := 11) (by kernel_rfl)
          obtain ⟨hp10, e11⟩ := hD.2 (11, 10, fun v => v) (by simp [PartT]) hp
          obtain ⟨F, w0, y', X2, lv2, D2, hv, -⟩ := hD.1.val hp10
          obtain rfl : y11 = .tuple #[.agg y'.cs.toArray, lv2] := hu.symm.trans (e11.trans hv)
          have hcl := Lib.hid (And.intro (hD.1.pure (k := 12) rfl hbe (by decide) (by decide) (by decide) (.agg y'.cs.toArray) (fun hks => absurd hks (by rw [(hD.1.pre (n := 24) hun (by kernel_rfl)).1]; decide))) (hD.2.det (i := 12) (p := 11) (φ := fstV) hun hp (.agg y'.cs.toArray) (by rw [hu]; first | done | rfl) (by intro t ht e; simp only [PartT, List.mem_cons, List.not_mem_nil, or_false] at ht; rcases ht with rfl | rfl | rfl | rfl <;> first | rfl | (simp at e))))
          go_simp
          exact hcl.out) ?_
        intro y12
        go_simp
        refine flowV_ch rfl rfl (by
          intro u' hu' L w' hun hbe hD
          have hu : u' 11 = y11 := (after_eq hu' (p := 11) (by kernel_rfl)).trans (by simp [upd])
          have hp := after_behind hbe (p := 11) (by kernel_rfl)
          obtain ⟨hp10, e11⟩ := hD.2 (11, 10, fun v => v) (by simp [PartT]) hp
          obtain ⟨F, w0, y', X2, lv2, D2, hv, -⟩ := hD.1.val hp10
          obtain rfl : y11 = .tuple #[.agg y'.cs.toArray, lv2] := hu.symm.trans (e11.trans hv)
          have hcl := Lib.hid (And.intro (hD.1.pure (k := 13) rfl hbe (by decide) (by decide) (by decide) lv2 (fun _ w0 h => h.upd (by decide) (by decide))) (hD.2.det (i := 13) (p := 11) (φ := sndV) hun hp lv2 (by rw [hu]; first | done | rfl) (by intro t ht e; simp only [PartT, List.mem_cons, List.not_mem_nil, or_false] at ht; rcases ht with rfl | rfl | rfl | rfl <;> first | rfl | (simp at e))))
          go_simp
          exact hcl.out) ?_
        intro y13
        go_simp
        refine flowV_ch rfl rfl (by
          intro u' hu' L w' hun hbe hD
          have hcl := Lib.hid (And.intro (hD.1.alloc (n := 24) rfl hbe hun (by decide) (by decide) (by kernel_rfl) (fun w w' hb h => h.be hb) (fun v F w w' hb h => CallP.be v F w w' hb h) (heap_alloc_new w' (.cells fmN 29))) (hD.2.skip hun (.pointer (some ⟨w'.heap.size, 0, none⟩)) rfl))
          go_simp
          exact hcl.out) ?_
        intro y14
        go_simp
        refine flowV_ch rfl rfl (by
          intro u' hu' L w' hun hbe hD
          have hpr := hD.1.pre (n := 24) hun (by kernel_rfl)
          have hu12 : u' 12 = y12 := (after_eq hu' (p := 12) (by kernel_rfl)).trans (by simp [upd])
          have hu14 : u' 14 = y14 := (after_eq hu' (p := 14) (by kernel_rfl)).trans (by simp [upd])
          have hp12 := after_behind hbe (p := 12) (by kernel_rfl)
          have hp14 := after_behind hbe (p := 14) (by kernel_rfl)
          obtain ⟨hp11, e12⟩ := hD.2 (12, 11, fstV) (by simp [PartT]) hp12
          obtain ⟨hp10, e11⟩ := hD.2 (11, 10, fun v => v) (by simp [PartT]) hp11
          obtain ⟨F, w0, y', X2, lv2, D2, hv, -⟩ := hD.1.val hp10
          obtain ⟨kk, e14, -, hbk⟩ := hpr.2.2.2.2 hp14
          have e12' : u' 12 = .agg y'.cs.toArray := e12.trans (by show fstV (u' 11) = _; rw [show u' 11 = u' 10 from e11, hv]; rfl)
          obtain rfl : y12 = .agg y'.cs.toArray := hu12.symm.trans e12'
          obtain rfl : y14 = .pointer (some ⟨kk, 0, none⟩) := hu14.symm.trans e14
          have hst := Lib.hid (And.intro (hD.1.store (n := 24) (x := undef) (w' := set5C w' kk (.int .i64 y'.f.op) (.string y'.f.a.n) (.slice y'.p y'.f.a.us.length y'.c) (.string y'.f.v) (.slice y'.q y'.f.ps.length y'.d)) rfl hbe hun (by decide) (by decide) (by kernel_rfl) (by kernel_rfl) ⟨kk, y', by rw [upd_other _ _ (by decide)]; exact e14, by rw [upd_other _ _ (by decide)]; exact e12', rfl⟩) (hD.2.skip hun undef rfl))
          rw [show y'.cs.toArray = #[.int .i64 y'.f.op, .string y'.f.a.n, .slice y'.p y'.f.a.us.length y'.c, .string y'.f.v, .slice y'.q y'.f.ps.length y'.d] from rfl]
          obtain ⟨d0, d1, d2, d3, d4⟩ := five_at hbk
          have df : ∀ j, w'.frozen? ⟨kk, j, none⟩ = false := fun j => frozen_of_row w' _ j _ _ hbk
          have ze := bsz (blk_lt hbk)
          clear hu' hu12 hu14 e12 e11 hv e12' e14 hbk hpr
          go_simp
          exact hst.out) ?_
        intro y15
        go_simp
        refine flowV_ch rfl rfl (by
          intro u' hu' L w' hun hbe hD
          have hu : u' 13 = y13 := (after_eq hu' (p := 13) (by kernel_rfl)).trans (by simp [upd])
          have hp := after_behind hbe (p := 13) (by kernel_rfl)
          have hcl := Lib.hid (And.intro (hD.1.pure (k := 16) rfl hbe (by decide) (by decide) (by decide) y13 (fun _ w0 h => h.upd (by decide) (by decide))) (hD.2.det (i := 16) (p := 13) (φ := fun v => v) hun hp y13 hu.symm (by intro t ht e; simp only [PartT, List.mem_cons, List.not_mem_nil, or_false] at ht; rcases ht with rfl | rfl | rfl | rfl <;> first | rfl | (simp at e))))
          go_simp
          exact hcl.out) ?_
        intro y16
        refine flowV_nil ?_
        intro L wz hL hDa hDb
        have hD := And.intro hDa hDb
        have hall : ∀ i, i < 17 → L.getD i false = true := fun i hi => by simpa using hL i (by simpa using hi)
        obtain ⟨-, -, w0, hk0, ⟨had1, had2⟩, kk, y5, h14, h12, hwz⟩ := hD.1.st (hall 15 (by decide))
        obtain ⟨F, ⟨y', X2, lv2, D2, hv, hyf, hfm, hss, hXF2, hXX2⟩, hF2, hF3⟩ := had1 (hall 10 (by decide))
        obtain ⟨kk', h14', hkk, hbk'⟩ := had2 (hall 14 (by decide))
        rw [h14] at h14'
        obtain rfl : kk = kk' := by simpa using h14'
        have hnF := hF3 (hall 14 (by decide)) kk h14
        have d11 := (hD.2 (11, 10, fun v => v) (by simp [PartT]) (hall 11 (by decide))).2
        have d12 := (hD.2 (12, 11, fstV) (by simp [PartT]) (hall 12 (by decide))).2
        have d13 := (hD.2 (13, 11, sndV) (by simp [PartT]) (hall 13 (by decide))).2
        have d16 := (hD.2 (16, 13, fun v => v) (by simp [PartT]) (hall 16 (by decide))).2
        simp only at d11 d12 d13 d16
        rw [d11, hv] at d12 d13
        rw [d13] at d16
        have he : y5.cs = y'.cs := by
          rw [h12] at d12
          have d12 : Value.agg y5.cs.toArray = .agg y'.cs.toArray := d12
          simpa using d12
        obtain rfl : y16 = lv2 := (show upd _ 16 y16 16 = y16 by simp [upd]).symm.trans (d16.trans rfl)
        obtain rfl : y14 = .pointer (some ⟨kk, 0, none⟩) := by simpa [upd] using h14
        have hwz2 : wz = set5C w0 kk (y5.cs.getD 0 undef) (y5.cs.getD 1 undef) (y5.cs.getD 2 undef) (y5.cs.getD 3 undef) (y5.cs.getD 4 undef) := hwz
        rw [he] at hwz2
        replace hwz2 : wz = set5C w0 kk (.int .i64 y'.f.op) (.string y'.f.a.n) (.slice y'.p y'.f.a.us.length y'.c) (.string y'.f.v) (.slice y'.q y'.f.ps.length y'.d) := hwz2
        have hX2k : ¬ X2 kk := fun e => hnF (hXF2 _ e)
        have hzz : wz.heap.size = w0.heap.size := by rw [hwz2]; simp
        have hoth : ∀ b, b ≠ kk → wz.heap[b]? = w0.heap[b]? := fun b hne => by rw [hwz2]; exact set5C_other _ _ _ _ _ _ hne
        have HZK := Lib.hid (show wz.heap[kk]? = some (.cells #[.int .i64 y'.f.op, .string y'.f.a.n, .slice y'.p y'.f.a.us.length y'.c, .string y'.f.v, .slice y'.q y'.f.ps.length y'.d] 29 (0, 0)) from hwz2 ▸ set5_cells w0 hbk')
        have HSS := Lib.hid (show SSt us base g (dfn (inS us) vfD y (op == 6) RL.2.1).2.1 (E ++ RL.2.2 ++ (dfn (inS us) vfD y (op == 6) RL.2.1).2.2) uv y16 D2 X2 wz from hss.stab ⟨by rw [hwz2]; rfl, by rw [hwz2]; rfl, by rw [hwz2]; rfl, by omega, fun b _ hn => hoth b (fun e => hX2k (e ▸ Classical.not_not.1 hn))⟩)
        have HFM := Lib.hid (show FmAt (fun b => wr.heap.size ≤ b ∧ b < wz.heap.size ∧ ¬ X2 b) (m + 3) wz y'.f y'.cs from FmAt.mono (fun b hb _ => hoth b (fun e => hnF (e ▸ hb.2.1))) (fun b hb => ⟨hb.1, by have := hF2 b hb.2.1; omega, hb.2.2⟩) _ _ _ _ (Nat.le_refl _) hfm)
        have HKZ := Lib.hid (show Kp X1 wr wz from ⟨by rw [hwz2]; exact hk0.os, by rw [hwz2]; exact hk0.tape, by rw [hwz2]; exact hk0.output, by have := hk0.size; omega, fun b hb hn => (hoth b (by omega)).trans (hk0.block b hb hn)⟩)
        have HX2 := Lib.hid (show ∀ b, X2 b → X1 b ∨ (wr.heap.size ≤ b ∧ b < wz.heap.size) from fun b e => (hXX2 b e).imp id (fun e' => ⟨e', by have := hF2 b (hXF2 b e); omega⟩))
        have HYF := Lib.hid hyf
        have hzw := HKZ.out.size
        clear hwz hwz2 hX2k hzz hoth hss hfm hk0 hall had1 had2 h14 h14' h12 hv hyf hXF2 hXX2 hF2 hF3 hkk hbk' hnF d11 d12 d13 d16 he hL hDa hDb hD
        have HFZ := Lib.hid (HFO.out.kp (X' := X2) HKZ.out (fun b e => (HX2.out b e).imp id (fun e => e.1)))
        obtain ⟨c0, c1, c2, c3, c4, cf, ck⟩ := HFZ.out.cells
        have zk := bsz ck
        obtain ⟨a0, a1, a2, a3, a4⟩ := five_at HZK.out
        have za := bsz (blk_lt HZK.out)
        have hrz := HFZ.out.row
        rw [HDI.out] at hrz
        have HRZ := Lib.hid hrz
        clear hrz
        go_wp2_with (at_builtin; refine wpList_app1 rfl (.tmp 48) (.tmp 50) _ rfl w4.heap.size 29 5 88 elemFmD _ _ (flatF DF) rfl wz #[.int .i64 y'.f.op, .string y'.f.a.n, .slice y'.p y'.f.a.us.length y'.c, .string y'.f.v, .slice y'.q y'.f.ps.length y'.d] rfl _ rfl rfl HRZ.out rfl (by intro u hu; simp at hu; rcases hu with rfl | rfl | rfl | rfl | rfl <;> rfl) (by omega) (by unfold maxLen; omega) (by omega) ?_; intro v3 w3 hown3 hg3 hnr3 hlt3; obtain ⟨q3, k3, rfl⟩ := own_form hown3 (Nat.succ_pos _); have hb3 := (hg3.block bk ck (fun e => HFZ.out.nk e.symm)).trans HFZ.out.box; obtain ⟨t0, t1, t2, t3, t4⟩ := five_at hb3; have tf : ∀ j, w3.frozen? ⟨bk, j, none⟩ = false := fun j => frozen_of_row w3 _ j _ _ hb3; have zk3 := bsz (blk_lt hb3); clear hb3 c0 c1 c2 c3 c4 cf zk a0 a1 a2 a3 a4 za)
        have HAP := Lib.hid (HFO.out.app2 (x := y') (X' := X2) (v' := .slice (some ⟨q3, 0, none⟩) (i + 1) k3) HKZ.out HX2.out HXF.out HFM.out hzr (by rw [HDI.out]; exact hown3) hg3 hnr3 (by rw [HDI.out]; omega))
        have HKE := Lib.hid (show Kp (fun b => X b ∨ b = bk) w4 (w3.setCell ⟨bk, 4, none⟩ (.slice (some ⟨q3, 0, none⟩) (i + 1) k3)) from
          ((HKP.out.trans HKZ.out (fun b e => (HXX.out b e).imp .inl id)).trans (Kp.of_gr hg3) (fun b e => .inr (own_base HFZ.out.row b e))).sc (a := ⟨bk, 4, none⟩) (.inl (.inr rfl)) _)
        refine ⟨⟨i + 1, some ⟨q3, 0, none⟩, k3, DF ++ [y'], X2, _, D2, by omega, by go_num, rfl, by rw [List.length_append, HDI.out]; rfl, ?_, HAP.out.1, ?_, ?_, HKE.out⟩, by simp [intOf]; omega⟩
        · rw [HTK.out, List.map_append, HDM.out, List.map_singleton, HYF.out]
        · rw [HTK.out]
          show SSt us base g _ (E ++ (RL.2.2 ++ _)) uv _ D2 X2 _
          rw [← List.append_assoc]
          exact HSS.out.stab HAP.out.2
        · exact fun b e => (HX2.out b e).elim (HXX.out b) (fun e => .inr (by omega))
      · obtain rfl : i = ps.length := by omega
        have HRP := Lib.hid (show RL = dfnL (inS us) vfD ps (op == 6) k by have := HRL.out; rwa [List.take_length] at this)
        have HR := Lib.hid ((HKP.out.block (w.heap.size + 1) (by omega) (fun e => e.elim (fun e => by have := HIX.out _ e; omega) (fun e => by omega))).trans ((HB4.out.block _ (by omega)).trans HR0.out))
        have hrX : ¬ X1 (w.heap.size + 1) := fun e => (HXX.out _ e).elim (fun e => by have := HIX.out _ e; omega) (fun e => by omega)
        have HKA := Lib.hid (show Kp X w wr from ⟨HKP.out.os.trans HW4.out.os, HKP.out.tape.trans HW4.out.tape, HKP.out.output.trans HW4.out.output, by omega, fun b hb hn => HKW.out b hb hn⟩)
        by_cases hb5 : b = true ∧ op = 5
        · obtain ⟨rfl, rfl⟩ := hb5
          have hds := dfn_size (S := inS us) (.mk 5 a xv ps) true k hok0
          have hnm := dfnL_num (vf := vfD) hS ps ((5 : Int) == 6) k s hks
          have hcn := dfnL_cnt (S := inS us) (vf := vfD) ps ((5 : Int) == 6) k
          rw [← HRP.out] at hnm hcn
          obtain ⟨y, hy⟩ : ∃ y : FC, y = ⟨.mk 5 a xv (DF.map (·.f)), pb, cb, q, d⟩ := ⟨_, rfl⟩
          have hdm : (DF.map (·.f)).length = ps.length := by rw [List.length_map, HDI.out]
          have hyc : y.cs = [.int .i64 5, .string a.n, .slice pb a.us.length cb, .string xv, .slice q ps.length d] := by
            rw [hy, ← hdm]; rfl
          have HYF := Lib.hid (show y.f = .mk 5 a xv RL.1 by rw [hy, ← HDM.out])
          have HYC := Lib.hid hyc
          have HDN := Lib.hid (show dfn (inS us) vfD (.mk 5 a xv ps) true k = (atomOfF (Dfn.atm ⟨dNm (nextD (inS us) RL.2.1), vfD y.f, y.f⟩), nextD (inS us) RL.2.1, RL.2.2 ++ [⟨dNm (nextD (inS us) RL.2.1), vfD y.f, y.f⟩]) by
            rw [HYF.out, HRP.out, dfn]; rfl)
          have HFT := Lib.hid (show FmAt (fun b => W.heap.size ≤ b ∧ b < wr.heap.size ∧ ¬ X1 b) (m + 3 + 1) wr y.f [.int .i64 5, .string a.n, .slice pb a.us.length cb, .string xv, .slice q ps.length d] by
            rw [HYF.out, ← HDM.out]
            refine ⟨_, _, _, rfl, HOP.out.1, HOP.out.2, ?_, ?_⟩
            · exact TmAt.mono (fun b hb hl => HKP.out.block b hl (fun e => e.elim (fun e => by have := HIX.out _ e; omega) hb.2.2)) (fun b hb => ⟨hb.1, by have := hb.2.1; omega, fun e => (HXX.out _ e).elim (fun e => by have := HIX.out _ e; omega) (fun e => by omega)⟩) _ _ _ _ (by omega) HTM.out
            · have hl := HFO.out.at_
              exact hl.mono (SameOn.refl _ _) (fun b hb => ⟨by have := hb.1; omega, hb.2.1, hb.2.2⟩) (fun y cs _ hy => FmAt.mono (SameOn.refl _ _) (fun b hb => ⟨by have := hb.1; omega, hb.2.1, hb.2.2⟩) _ _ _ _ (Nat.le_refl _) hy))
          have HOK := Lib.hid (show y.f.okD = true ∧ y.f.nq = true ∧ y.f.nn ≤ 900000 ∧ (vfD y.f).length ≤ 100000 by
            obtain ⟨j1, j2, j3, -⟩ := hds.ds ⟨dNm (nextD (inS us) RL.2.1), vfD y.f, y.f⟩ (by rw [HDN.out]; exact List.mem_append_right _ (List.mem_cons_self ..))
            have h6 := vfD_len y.f
            replace j1 : y.f.okD = true := j1
            replace j3 : y.f.nn ≤ _ := j3
            exact ⟨j1, Fm.okD_nq _ j1, by omega, by omega⟩)
          have hn1 : RL.2.1 ≤ 1000000 := by omega
          have hd1l : (E ++ RL.2.2).length ≤ 10000 := by rw [List.length_append]; omega
          have HBK := Lib.hid HFO.out.box
          clear hy hyc hdm hds
          obtain ⟨K1, hK1⟩ : ∃ K1, K1 = RL.2.1 := ⟨_, rfl⟩
          obtain ⟨E1, hE1⟩ : ∃ E1, E1 = E ++ RL.2.2 := ⟨_, rfl⟩
          obtain ⟨n, hn⟩ : ∃ n, n = nextD (inS us) K1 := ⟨_, rfl⟩
          rw [← hK1] at HST HDN hn1
          rw [← hE1] at HST hd1l
          rw [← hn] at HDN
          have HE1 := Lib.hid hE1
          have HN := Lib.hid hn
          have hgw : g < w.heap.size := HIX.out _ HXG.out
          clear hK1 hE1 hn hnm hcn
          go_wp2
          clear a0 a1 a2 a3 a4 za c0 c1 c2 c3 c4 cf zk
          have dfnStab : Proms.Stab [(1, fun v w' => v = .string (dNm n) ∧ SSt us base g n E1 uv (.slice pl D1.length cl) D1 X1 w'), (3, fun v w' => w'.ownsRow wr.heap.size 9 1 v (vfD y.f).length (strW (vfD y.f))), (5, fun v w' => ∃ vv, v = .agg #[.string (dNm n), vv, .int .i64 5, .string a.n, .slice pb a.us.length cb, .string xv, .slice q ps.length d] ∧ w'.ownsRow wr.heap.size 9 1 vv (vfD y.f).length (strW (vfD y.f))),
              (6, fun v w' => ∃ kk, v = .pointer (some ⟨kk, 0, none⟩) ∧ wr.heap.size ≤ kk ∧ w'.heap[kk]? = some (.cells #[.string ⟨#[]⟩, .slice none 0 0, .int .i64 0, .string ⟨#[]⟩, .slice none 0 0, .string ⟨#[]⟩, .slice none 0 0] 60 (0, 0)))] := by
            intro p hp v w w' hb h
            simp only [List.mem_cons, List.not_mem_nil, or_false] at hp
            rcases hp with rfl | rfl | rfl | rfl
            · exact ⟨h.1, h.2.be hb⟩
            · exact own_below h hb
            · obtain ⟨vv, h1, h2⟩ := h
              exact ⟨vv, h1, own_below h2 hb⟩
            · obtain ⟨kk, h1, h2, h3⟩ := h
              exact ⟨kk, h1, h2, (hb.block kk (blk_lt h3)).trans h3⟩
          refine wp_region_turn [some (.pointer (some ⟨g, 0, none⟩)), none, some (.agg #[.int .i64 5, .string a.n, .slice pb a.us.length cb, .string xv, .slice q ps.length d]), none, some (.agg #[.int .i64 5, .string a.n, .slice pb a.us.length cb, .string xv, .slice q ps.length d]), none, none, none] (fun b => b = g) 1 7 (fun w' => SSt us base g K1 E1 uv (.slice pl D1.length cl) D1 X1 w')
            [(1, fun v w' => v = .string (dNm n) ∧ SSt us base g n E1 uv (.slice pl D1.length cl) D1 X1 w'), (3, fun v w' => w'.ownsRow wr.heap.size 9 1 v (vfD y.f).length (strW (vfD y.f))), (5, fun v w' => ∃ vv, v = .agg #[.string (dNm n), vv, .int .i64 5, .string a.n, .slice pb a.us.length cb, .string xv, .slice q ps.length d] ∧ w'.ownsRow wr.heap.size 9 1 vv (vfD y.f).length (strW (vfD y.f))),
              (6, fun v w' => ∃ kk, v = .pointer (some ⟨kk, 0, none⟩) ∧ wr.heap.size ≤ kk ∧ w'.heap[kk]? = some (.cells #[.string ⟨#[]⟩, .slice none 0 0, .int .i64 0, .string ⟨#[]⟩, .slice none 0 0, .string ⟨#[]⟩, .slice none 0 0] 60 (0, 0)))] (StoD 5 6) (by kernel_rfl) (by kernel_rfl) (HST.out.be ((Below.refl _ _).drew)) ?_
          go_simp
          refine InK.rd 24 rfl rfl rfl (by kernel_rfl) (by intro w' hw' D hD; skip; go_simp; first | exact hD | exact ⟨hD, rfl⟩) ?_
          go_simp
          refine flowV_ch rfl rfl (by
            intro u' hu' L w' hun hbe hD
            have hpr := hD.pre (n := 24) hun (by kernel_rfl)
            have hJ := hpr.2.2.1 (getD_tf hun)
            go_simp
            refine (nmNext_any g K1 us uv w' hJ.nm hJ.tk (fun b hb => hb.2.1) hn1 hS).mono ?_
            rintro e w'' ⟨he, hnn', hg⟩
            rw [← HN.out] at he hnn'
            exact ⟨_, he, hD.turn (n := 24) rfl hbe hun (by decide) (by kernel_rfl) (by
              intro p hp hne v w w' hk hW h
              simp only [List.mem_cons, List.not_mem_nil, or_false] at hp
              rcases hp with rfl | rfl | rfl | rfl
              · exact absurd rfl hne
              · exact own_same h (fun b hb hl => hk.block b hl (by have := own_base h b hb; omega))
              · obtain ⟨vv, h1, h2⟩ := h
                exact ⟨vv, h1, own_same h2 (fun b hb hl => hk.block b hl (by have := own_base h2 b hb; omega))⟩
              · obtain ⟨kk, h1, h2, h3⟩ := h
                exact ⟨kk, h1, h2, (hk.block kk (blk_lt h3) (by omega)).trans h3⟩) ((Kp.of_gr hg).mono (fun b e => .inl (Option.some.inj e).symm)) ⟨rfl, hJ.named hnn' hg⟩⟩) ?_
          intro xn
          go_simp
          refine InK.rd 24 rfl rfl rfl (by kernel_rfl) (by intro w' hw' D hD; have hbx := (hw'.block bk (blk_lt HBK.out) (by omega)).trans HBK.out; obtain ⟨e0, e1, e2, e3, e4⟩ := five_at hbx; have ze := bsz (blk_lt hbx); clear hbx; go_simp; first | exact hD | exact ⟨hD, rfl⟩) ?_
          go_simp
          refine flowV_ch rfl rfl (by
            intro u' hu' L w' hun hbe hD
            have hpr := hD.pre (n := 24) hun (by kernel_rfl)
            have hw' := hpr.2.1
            have hsz' := hw'.size
            go_simp
            refine (l8Free_any (m + 3 + 1) y.f _ _ _ _ _ w' (FmAt.mono (fun b hb hl => hw'.block b hl (fun e => hb.2.2 (e ▸ HST.out.xg))) (fun _ h => h) _ _ _ _ (Nat.le_refl _) HFT.out) HOK.out.2.1 HOK.out.2.2.1).mono ?_
            rintro e w'' ⟨l', v', he, hr, hac, hb⟩
            obtain rfl := vfD_of' HOK.out.1 hac
            exact ⟨_, he, hD.call (n := 24) rfl hbe hun (by decide) (by decide) (by kernel_rfl) dfnStab (fun w w' hb h => h.be hb) hb (own_lower hr hsz')⟩) ?_
          intro xv'
          go_simp
          refine InK.rd 24 rfl rfl rfl (by kernel_rfl) (by intro w' hw' D hD; have hbx := (hw'.block bk (blk_lt HBK.out) (by omega)).trans HBK.out; obtain ⟨e0, e1, e2, e3, e4⟩ := five_at hbx; have ze := bsz (blk_lt hbx); clear hbx; go_simp; first | exact hD | exact ⟨hD, rfl⟩) ?_
          go_simp
          refine flowV_ch rfl rfl (by
            intro u' hu' L w' hun hbe hD
            have hpr := hD.pre (n := 24) hun (by kernel_rfl)
            have q4 := hpr.2.2.2 1 (after_behind hbe (p := 1) (by kernel_rfl))
            rw [show u' 1 = xn from (after_eq hu' (p := 1) (by kernel_rfl)).trans (by simp [upd])] at q4
            have q6 := hpr.2.2.2 3 (after_behind hbe (p := 3) (by kernel_rfl))
            rw [show u' 3 = xv' from (after_eq hu' (p := 3) (by kernel_rfl)).trans (by simp [upd])] at q6
            obtain ⟨rfl, -⟩ := q4
            have q6 : w'.ownsRow wr.heap.size 9 1 xv' (vfD y.f).length (strW (vfD y.f)) := q6
            obtain ⟨pv, cv, rfl⟩ := own_slice q6
            have hcl := Lib.hid (hD.call (x := .agg #[.string (dNm n), .slice pv (vfD y.f).length cv, .int .i64 5, .string a.n, .slice pb a.us.length cb, .string xv, .slice q ps.length d]) (n := 24) rfl hbe hun (by decide) (by decide) (by kernel_rfl) dfnStab (fun w w' hb h => h.be hb) (Below.refl _ _) ⟨_, rfl, q6⟩)
            first | (go_simp; done) | (go_simp; exact hcl.out)) ?_
          intro xd
          go_simp
          refine flowV_ch rfl rfl (by
            intro u' hu' L w' hun hbe hD
            have hpr := hD.pre (n := 24) hun (by kernel_rfl)
            have hw' := hpr.2.1
            have hcl := Lib.hid (hD.call (x := .pointer (some ⟨w'.heap.size, 0, none⟩)) (n := 24) rfl hbe hun (by decide) (by decide) (by kernel_rfl) dfnStab (fun w w' hb h => h.be hb) ((Below.refl w'.heap.size w').alloc (Nat.le_refl _) (.cells #[.string ⟨#[]⟩, .slice none 0 0, .int .i64 0, .string ⟨#[]⟩, .slice none 0 0, .string ⟨#[]⟩, .slice none 0 0] 60)) ⟨w'.heap.size, rfl, hw'.size, heap_alloc_new w' _⟩)
            first | (go_simp; done) | (go_simp; exact hcl.out)) ?_
          intro xp
          go_simp
          refine flowV_ch rfl rfl (by
            intro u' hu' L w' hun hbe hD
            have hpr := hD.pre (n := 24) hun (by kernel_rfl)
            have hu8 : u' 5 = xd := (after_eq hu' (p := 5) (by kernel_rfl)).trans (by simp [upd])
            have hu9 : u' 6 = xp := (after_eq hu' (p := 6) (by kernel_rfl)).trans (by simp [upd])
            have q8 := hpr.2.2.2 5 (after_behind hbe (p := 5) (by kernel_rfl))
            rw [hu8] at q8
            have q9 := hpr.2.2.2 6 (after_behind hbe (p := 6) (by kernel_rfl))
            rw [hu9] at q9
            obtain ⟨vv, rfl, q8⟩ := q8
            obtain ⟨kk, rfl, q91, q92⟩ := q9
            obtain ⟨pv, cv, rfl⟩ := own_slice q8
            have hst := hD.store (x := undef) rfl hbe hun (R := StoD 5 6) (w' := set7C w' kk (.string (dNm n)) (.slice pv (vfD y.f).length cv) (.int .i64 5) (.string a.n) (.slice pb a.us.length cb) (.string xv) (.slice q ps.length d)) ⟨kk, _, _, _, _, _, _, _, by rw [upd_other _ _ (by decide)]; exact hu9, by rw [upd_other _ _ (by decide)]; exact hu8, rfl⟩
            rw [set7C] at hst
            have hst := Lib.hid hst
            obtain ⟨d0, d1, d2, d3, d4, d5, d6⟩ := seven_at q92
            have df : ∀ j, w'.frozen? ⟨kk, j, none⟩ = false := fun j => frozen_of_row w' _ j _ _ q92
            have ze := bsz (blk_lt q92)
            clear q92 q91 hu8 hu9 hu'
            first | (go_simp; done) | (go_simp; exact hst.out)) ?_
          intro xs
          refine flowV_nil ?_
          intro L wz hL hD
          obtain ⟨w0, hk0, hq, kk, z0, z1, z2, z3, z4, z5, z6, h9, h8, hwz⟩ := hD.done (fun i hi => by simpa using hL i (by simpa using hi)) (by decide)
          have q4 := hq 1 (by decide) (by decide)
          have q8 := hq 5 (by decide) (by decide)
          have q9 := hq 6 (by decide) (by decide)
          rw [h8] at q8
          rw [h9] at q9
          obtain ⟨-, q4⟩ := q4
          obtain ⟨vv, hv8, q8⟩ := q8
          obtain ⟨kk', hk9, q91, q92⟩ := q9
          simp only [Value.pointer.injEq, Option.some.injEq, Addr.mk.injEq, and_true] at hk9
          subst hk9
          simp only [Value.agg.injEq, Array.mk.injEq, List.cons.injEq, and_true] at hv8
          obtain ⟨rfl, rfl, rfl, rfl, rfl, rfl, rfl⟩ := hv8
          obtain rfl : xp = .pointer (some ⟨kk, 0, none⟩) := by simpa [upd] using h9
          obtain ⟨pv, cv, rfl⟩ := own_slice q8
          have hkX : ¬ X1 kk := fun e => by have := HST.out.foot _ e; omega
          have HDZ := Lib.hid (show SSt us base g n E1 uv (.slice pl D1.length cl) D1 X1 wz from q4.stab (hwz ▸ set7_kp (Kp.refl _ _) (.inl hkX) _ _ _ _ _ _ _))
          have HB7 := Lib.hid (show wz.heap[kk]? = some (.cells #[.string (dNm n), .slice pv (vfD y.f).length cv, .int .i64 5, .string a.n, .slice pb a.us.length cb, .string xv, .slice q ps.length d] 60 (0, 0)) from hwz ▸ set7_cells w0 _ _ _ _ _ _ _ q92)
          have hzz : wz.heap.size = w0.heap.size := by rw [hwz, set7C]; simp
          have hoth : ∀ b, b ≠ kk → wz.heap[b]? = w0.heap[b]? := fun b hne => by
            by_cases hl : b < w0.heap.size
            · exact (show Kp (fun b => b = kk) w0 wz from hwz ▸ set7_kp (X := fun b => b = kk) (Kp.refl _ _) (.inl rfl) _ _ _ _ _ _ _).block b hl hne
            · rw [Array.getElem?_eq_none (by omega), Array.getElem?_eq_none (by omega)]
          have HRV := Lib.hid (show wz.ownsRow wr.heap.size 9 1 (.slice pv (vfD y.f).length cv) (vfD y.f).length (strW (vfD y.f)) from own_same q8 (fun b hb hl => hoth b (fun e => by
            subst e
            rcases q8.2 with ⟨h1, -⟩ | ⟨g', cap, cur, h1, -, h2, -⟩
            · rw [h1] at hb; simp [Value.ownBlock] at hb
            · rw [h1] at hb
              obtain rfl : g' = b := by simpa [Value.ownBlock] using hb
              rw [q92] at h2
              simp at h2)))
          have HKZ := Lib.hid (show Kp X w wz from hwz ▸ set7_kp ((HKA.out.trans hk0 (fun b e => .inl (e ▸ HXG.out)))) (.inr (by have := HKA.out.size; omega)) _ _ _ _ _ _ _)
          have HZZ := Lib.hid (show wr.heap.size ≤ wz.heap.size from by have := hk0.size; omega)
          have HRZ := Lib.hid (show wz.heap[w.heap.size + 1]? = some (.cells #[.int .i64 0, .string ⟨#[]⟩, .slice none 0 0, .string ⟨#[]⟩, .slice none 0 0] 29 (0, 0)) from (hoth _ (by omega)).trans ((hk0.block _ (by omega) (by omega)).trans HR.out))
          clear q4 q8 q92 hoth hzz hq hL hD h8 h9 hwz hk0 dfnStab
          obtain ⟨t0, t1, t2, t3, t4, t5, t6⟩ := seven_at HB7.out
          have zt := bsz (blk_lt HB7.out)
          go_wp2_with fail
          go_wp2
          obtain ⟨Wt, hWt⟩ : ∃ q', q' = wz.alloc (.cells #[.string (dNm n), .slice none 0 0] 26) := ⟨_, rfl⟩
          have hzt : wz.heap.size + 1 = Wt.heap.size := by rw [hWt]; simp
          have HBt := Lib.hid (show Below wz.heap.size wz Wt by rw [hWt]; exact (Below.refl _ _).alloc (Nat.le_refl _) _)
          have HCt := Lib.hid (show Wt.heap[wz.heap.size]? = some (.cells #[.string (dNm n), .slice none 0 0] 26 (0, 0)) by rw [hWt]; exact heap_alloc_new wz _)
          rw [← hWt]
          clear hWt t0 t1 t2 t3 t4 t5 t6 zt
          have HZT := Lib.hid hzt
          have hzt2 : wz.heap.size < Wt.heap.size := by omega
          have hvl : (vfD y.f).length ≤ 100000 := HOK.out.2.2.2
          clear hzt
          obtain ⟨wl, rfl⟩ : ∃ wl : World, wr = wl := ⟨_, rfl⟩
          go_loopw [16] (fun iv (wq : World) => ∃ (j : Nat) (qa : Option Addr) (da : Nat), j ≤ (vfD y.f).length ∧ iv = .int .i64 j ∧ wq.heap[wz.heap.size]? = some (.cells #[.string (dNm n), .slice qa j da] 26 (0, 0)) ∧ wq.ownsRow Wt.heap.size 26 2 (.slice qa j da) j (flatT (((vfD y.f).take j).map leafC)) ∧ Below wz.heap.size Wt wq) (fun iv _ => (vfD y.f).length - (intOf iv).toNat)
          case atStart => exact ⟨0, none, 0, Nat.zero_le _, rfl, HCt.out, ⟨by simp [flatT], .inl ⟨rfl, rfl⟩⟩, Below.refl _ _⟩
          case round =>
            obtain ⟨j, qa, da, hj, rfl, hbx, hrow, hbq⟩ := hrel
            have HBX := Lib.hid hbx
            have HRW := Lib.hid hrow
            have HBQ := Lib.hid hbq
            have hzq := hbq.size
            have HB7q := Lib.hid (show wr.heap[kk]? = _ from (hbq.block kk (blk_lt HB7.out)).trans ((HBt.out.block kk (blk_lt HB7.out)).trans HB7.out))
            obtain ⟨t0, t1, t2, t3, t4, t5, t6⟩ := seven_at HB7q.out
            have zt := bsz (blk_lt HB7q.out)
            clear hbx hrow hbq
            have hcl2 := blk_lt HBX.out
            have hvk : (Value.slice qa j da).ownBlock ≠ some wz.heap.size ∧ (Value.slice qa j da).ownBlock ≠ some kk := ⟨fun e => by have := own_base HRW.out _ e; omega, fun e => by have := own_base HRW.out _ e; have := blk_lt HB7.out; omega⟩
            by_cases hlt2 : j < (vfD y.f).length
            · have hlti2 : (j : Int) < (vfD y.f).length := by omega
              obtain ⟨g', rfl, hg1, hg2, -, hgc⟩ := rowS_cell HRV.out (by omega)
              have hvg := hgc j (vfD y.f)[j] (List.getElem?_eq_getElem hlt2)
              obtain ⟨nm, hnm⟩ : ∃ nm, (vfD y.f)[j] = nm := ⟨_, rfl⟩
              have HTK2 := Lib.hid (show (vfD y.f).take (j + 1) = (vfD y.f).take j ++ [nm] by rw [List.take_succ_eq_append_getElem hlt2, hnm])
              rw [hnm] at hvg
              have hvg2 : wr.cell? ⟨g', j, none⟩ = some (.string nm) := (HBQ.out.cell (p := ⟨g', j, none⟩) hg2).trans ((HBt.out.cell (p := ⟨g', j, none⟩) hg2).trans hvg)
              have hvg3 : (Value.slice qa j da).ownBlock ≠ some g' := fun e => by have := own_base HRW.out _ e; omega
              have zg := bsz (World.block_lt_of_cell? _ _ hvg2)
              have HVG := Lib.hid hvg2
              clear hgc hvg hnm hvg2
              go_wp2_with fail
              go_wp2
              have HCL := Lib.hid (fun (jj : Nat) (u' : Nat → Value) (w' : World) (hj : jj ≤ 2) (hS : BoxA 26 2 ⟨wz.heap.size, 1, none⟩ (.slice qa j da) j #[.string nm, .slice none 0 0] wr.drew 8 9 jj u' w') => And.intro (hS.cell (b := wz.heap.size) (o := 1) (x := .slice qa j da) hj hvk.1 ((cell_of_row wr _ 1 _ _ (0, 0) HBX.out).trans rfl)) (And.intro (hS.frozen (b := wz.heap.size) (o := 1) hj hvk.1 HBX.out) (And.intro (hS.cell (b := kk) (o := 1) (x := .slice (some ⟨g', 0, none⟩) (vfD y.f).length cv) hj hvk.2 ((cell_of_row wr _ 1 _ _ (0, 0) HB7q.out).trans rfl)) (hS.cell (b := g') (o := j) (x := .string nm) hj hvg3 HVG.out))))
              refine wp_region_stages [some (.pointer (some ⟨wz.heap.size, 1, none⟩)), some (.slice qa j da), some (.pointer (some ⟨kk, 1, none⟩)), some (.slice (some ⟨g', 0, none⟩) (vfD y.f).length cv), some (.int .i64 (j : Nat)), some (.pointer (some ⟨g', j, none⟩)), some (.string nm), some (.agg #[.string nm, .slice none 0 0]), none, none, some (.pointer (some ⟨wz.heap.size, 1, none⟩)), none] [8, 9, 11] (BoxA 26 2 ⟨wz.heap.size, 1, none⟩ (.slice qa j da) (j) (#[.string nm, .slice none 0 0]) (wr.drew) 8 9) (by kernel_rfl) (by kernel_rfl) (by first | kernel_rfl | rfl) (by rfl) rfl ?_
              refine chain_stb (c := 11) 2 rfl rfl (by decide) rfl rfl rfl (by first | kernel_rfl | rfl) ?_ ?_
              · intro j u w' hj hS
                have hc := HCL.out j u w' hj hS
                go_simp
                first | done | exact ⟨hS, rfl⟩ | exact hS | rfl
              go_simp
              refine chain_stb (c := 11) 2 rfl rfl (by decide) rfl rfl rfl (by first | kernel_rfl | rfl) ?_ ?_
              · intro j u w' hj hS
                have hc := HCL.out j u w' hj hS
                go_simp
                first | done | exact ⟨hS, rfl⟩ | exact hS | rfl
              go_simp
              refine chain_stb (c := 11) 2 rfl rfl (by decide) rfl rfl rfl (by first | kernel_rfl | rfl) ?_ ?_
              · intro j u w' hj hS
                have hc := HCL.out j u w' hj hS
                go_simp
                first | done | exact ⟨hS, rfl⟩ | exact hS | rfl
              go_simp
              refine chain_stb (c := 11) 2 rfl rfl (by decide) rfl rfl rfl (by first | kernel_rfl | rfl) ?_ ?_
              · intro j u w' hj hS
                have hc := HCL.out j u w' hj hS
                go_simp
                first | done | exact ⟨hS, rfl⟩ | exact hS | rfl
              go_simp
              refine chain_stb (c := 11) 2 rfl rfl (by decide) rfl rfl rfl (by first | kernel_rfl | rfl) ?_ ?_
              · intro j u w' hj hS
                have hc := HCL.out j u w' hj hS
                go_simp
                first | done | exact ⟨hS, rfl⟩ | exact hS | rfl
              go_simp
              refine chain_stb (c := 11) 2 rfl rfl (by decide) rfl rfl rfl (by first | kernel_rfl | rfl) ?_ ?_
              · intro j u w' hj hS
                have hc := HCL.out j u w' hj hS
                go_simp
                first | done | exact ⟨hS, rfl⟩ | exact hS | rfl
              go_simp
              refine chain_stb (c := 11) 2 rfl rfl (by decide) rfl rfl rfl (by first | kernel_rfl | rfl) ?_ ?_
              · intro j u w' hj hS
                have hc := HCL.out j u w' hj hS
                go_simp
                first | done | exact ⟨hS, rfl⟩ | exact hS | rfl
              go_simp
              refine chain_stb (c := 11) 2 rfl rfl (by decide) rfl rfl rfl (by first | kernel_rfl | rfl) ?_ ?_
              · intro j u w' hj hS
                have hc := HCL.out j u w' hj hS
                go_simp
                first | done | exact ⟨hS, rfl⟩ | exact hS | rfl
              go_simp
              refine chain_first rfl rfl rfl (by decide) rfl ?_ ?_
              · intro w' hS
                obtain rfl : w' = wr.drew := hS
                go_simp
                exact ⟨rfl, upd_same _ _ _⟩
              intro xb
              go_simp
              refine chain_next 0 rfl rfl rfl rfl (by decide) rfl (by first | kernel_rfl | rfl) ?_ ?_
              · intro w' hS
                obtain ⟨rfl, hy⟩ := hS
                rw [upd_same] at hy
                subst hy
                refine each_app1 (.tmp 79) (.tmp 86) _ rfl (Wt.heap.size) 26 2 40 elemTmA (.slice qa j da) (j) (flatT (((vfD y.f).take j).map leafC)) rfl (wr.drew) (#[.string nm, .slice none 0 0]) rfl rfl (HRW.out) rfl (by intro u hu; simp at hu; first | (subst hu; rfl) | (rcases hu with rfl | rfl <;> rfl) | (rcases hu with rfl | rfl | rfl <;> rfl) | (rcases hu with rfl | rfl | rfl | rfl <;> rfl) | (rcases hu with rfl | rfl | rfl | rfl | rfl <;> rfl) | (rcases hu with rfl | rfl | rfl | rfl | rfl | rfl <;> rfl) | (rcases hu with rfl | rfl | rfl | rfl | rfl | rfl | rfl <;> rfl)) (by omega) (by unfold maxLen; omega) (by first | omega | (simp; omega)) ?_
                intro v' w3 happ hg3 hnr hsz
                exact ⟨by rw [upd_same]; exact happ, hg3, by rw [upd_same]; exact hnr, hsz⟩
              intro xa
              go_simp
              refine chain_stb (c := 11) 2 rfl rfl (by decide) rfl rfl rfl (by first | kernel_rfl | rfl) ?_ ?_
              · intro j u w' hj hS
                have hc := HCL.out j u w' hj hS
                go_simp
                first | done | exact ⟨hS, rfl⟩ | exact hS | rfl
              go_simp
              refine chain_next 1 rfl rfl rfl rfl (by decide) rfl (by first | kernel_rfl | rfl) ?_ ?_
              · intro w' hS
                have hc := HCL.out 2 _ _ (Nat.le_refl _) hS
                obtain ⟨happ, hg3, hnr, hsz⟩ := hS
                rw [upd_same] at happ hnr
                obtain ⟨q', c', rfl⟩ := own_form (happ (Wt.heap.size) (flatT (((vfD y.f).take j).map leafC)) (HRW.out) (by first | omega | (simp; omega))) (Nat.succ_pos _)
                go_simp
                exact ⟨w', ⟨by rw [upd_other _ _ (by decide), upd_same]; exact happ, hg3, by rw [upd_other _ _ (by decide), upd_same]; exact hnr, hsz⟩, by rw [upd_other _ _ (by decide), upd_same]⟩
              intro xs'
              refine flowU_nil ?_
              intro wz hz
              obtain ⟨w2, hAp, rfl⟩ := hz
              rw [upd_other _ _ (by decide), upd_same] at hAp ⊢
              have HAP := Lib.hid hAp
              clear hAp
              go_simp
              have hrow2 := HAP.out.1 Wt.heap.size (flatT (((vfD y.f).take j).map leafC)) HRW.out (by simp; omega)
              obtain ⟨q2, k2, rfl⟩ := own_form hrow2 (Nat.succ_pos _)
              have hbx2 := (HAP.out.keep (b := wz.heap.size) hcl2 hvk.1).trans HBX.out
              have hfx := HAP.out.fresh (b := wz.heap.size) hcl2 hvk.1
              have hw2z : wr.heap.size < w2.heap.size := HAP.out.2.2.2
              clear t0 t1 t2 t3 t4 t5 t6 zt zg HCL
              go_wp2
              refine ⟨⟨j + 1, some ⟨q2, 0, none⟩, k2, by omega, by go_num, ?_, ?_, ?_⟩, by simp [intOf]; omega⟩
              · have := heap_setCell_same w2 wz.heap.size 1 _ _ (.slice (some ⟨q2, 0, none⟩) (j + 1) k2) hbx2
                simpa using this
              · rw [HTK2.out, flatT_snoc]
                exact own_same hrow2 (fun b hb _ => heap_setCell_other w2 ⟨wz.heap.size, 1, none⟩ b _ (fun e => hfx (by rw [hb]; exact congrArg some e)))
              · have hgr := HAP.out.2.1
                have hq := HBQ.out
                exact ⟨hgr.os.trans hq.os, hgr.tape.trans hq.tape, hgr.output.trans hq.output, by simp; omega, fun b hb => (heap_setCell_other w2 ⟨wz.heap.size, 1, none⟩ b _ (by show b ≠ wz.heap.size; omega)).trans ((hgr.block b (show b < wr.heap.size by omega) (fun e => by have := own_base HRW.out b e.symm; omega)).trans (hq.block b hb))⟩
            · obtain rfl : j = (vfD y.f).length := by omega
              obtain ⟨b0, b1, bf⟩ := cells2_cell HBX.out
              have zb2 := bsz hcl2
              go_wp2_with fail
              go_wp2
              have HLV := Lib.hid (show wr.ownsRow base 60 7 (.slice pl D1.length cl) D1.length (flatD D1) from own_same HDZ.out.row (fun b hb hl => (HBQ.out.block b hl).trans (HBt.out.block b hl)))
              have hD1l : D1.length ≤ 10000 := by have := congrArg List.length HDZ.out.ds; rw [List.length_map] at this; omega
              have HNL := Lib.hid (show (Value.slice pl D1.length cl).ownBlock ≠ some wz.heap.size ∧ (Value.slice pl D1.length cl).ownBlock ≠ some (w.heap.size + 1) from ⟨fun e => by have := HDZ.out.foot _ (HDZ.out.xl _ e); omega, fun e => hrX (HDZ.out.xl _ e)⟩)
              have HRQ := Lib.hid (show wr.heap[w.heap.size + 1]? = _ from (HBQ.out.block _ (blk_lt HRZ.out)).trans ((HBt.out.block _ (blk_lt HRZ.out)).trans HRZ.out))
              have hbs : base ≤ wr.heap.size := by have := HKZ.out.size; omega
              refine wp_region_stages [some (.agg #[.string (dNm n), .slice qa (vfD y.f).length da]), some (.agg #[.int .i64 3, .string (dNm n), .slice qa (vfD y.f).length da, .string ⟨#[]⟩, .slice none 0 0]), some (.slice pl D1.length cl), some (.agg #[.string (dNm n), .slice pv (vfD y.f).length cv, .int .i64 5, .string a.n, .slice pb a.us.length cb, .string xv, .slice q ps.length d]), none, none, none, none] [4, 5, 6, 7] (RetSt 60 7 (.slice pl D1.length cl) D1.length #[.string (dNm n), .slice pv (vfD y.f).length cv, .int .i64 5, .string a.n, .slice pb a.us.length cb, .string xv, .slice q ps.length d] wr.drew (w.heap.size + 1) (.int .i64 3) (.string (dNm n)) (.slice qa (vfD y.f).length da) (.string ⟨#[]⟩) (.slice none 0 0)) (by kernel_rfl) (by kernel_rfl) (by first | kernel_rfl | rfl) (by rfl) rfl ?_
              refine chain_stb (c := 6) 2 rfl rfl (by decide) rfl rfl rfl (by first | kernel_rfl | rfl) ?_ ?_
              · intro j u w' hj hS
                have hk := (hS.keep hj (b := wz.heap.size) hcl2 HNL.out.1).trans HBX.out
                obtain ⟨f0, f1, ff⟩ := cells2_cell hk
                have zf := bsz (blk_lt hk)
                clear hk
                go_simp
                first | done | exact ⟨hS, rfl⟩ | exact hS | rfl
              go_simp
              refine chain_st rfl rfl (by decide) rfl (by intro j u w' hS; go_simp; first | done | exact ⟨hS, rfl⟩ | exact hS | rfl) ?_
              go_simp
              refine chain_st rfl rfl (by decide) rfl (by intro j u w' hS; go_simp; first | done | exact ⟨hS, rfl⟩ | exact hS | rfl) ?_
              go_simp
              refine chain_stb (c := 4) 0 rfl rfl (by decide) rfl rfl rfl (by first | kernel_rfl | rfl) ?_ ?_
              · intro j u w' hj hS
                obtain rfl : j = 0 := by omega
                obtain rfl : w' = wr.drew := hS
                obtain ⟨f0, f1, f2, f3, f4, f5, f6⟩ := seven_at HB7q.out
                have zf := bsz (blk_lt HB7q.out)
                go_simp
                first | done | exact ⟨rfl, rfl⟩ | rfl
              go_simp
              refine chain_first rfl rfl rfl (by decide) rfl ?_ ?_
              · intro w' hS
                obtain rfl : w' = wr.drew := hS
                go_simp
                exact ⟨rfl, upd_same _ _ _⟩
              intro xb
              go_simp
              refine chain_next 0 rfl rfl rfl rfl (by decide) rfl (by first | kernel_rfl | rfl) ?_ ?_
              · intro w' hS
                obtain ⟨rfl, hy⟩ := hS
                rw [upd_same] at hy
                subst hy
                refine each_app1 (.tmp 91) (.tmp 93) _ rfl base 60 7 128 elemDf (.slice pl D1.length cl) D1.length (flatD D1) rfl wr.drew #[.string (dNm n), .slice pv (vfD y.f).length cv, .int .i64 5, .string a.n, .slice pb a.us.length cb, .string xv, .slice q ps.length d] rfl rfl HLV.out rfl (by intro u hu; simp at hu; rcases hu with rfl | rfl | rfl | rfl | rfl | rfl | rfl <;> rfl) (by omega) (by unfold maxLen; omega) hbs ?_
                intro v' w3 happ hg3 hnr hsz
                exact ⟨by rw [upd_same]; exact happ, hg3, by rw [upd_same]; exact hnr, hsz⟩
              intro xa
              go_simp
              refine chain_next 1 rfl rfl rfl rfl (by decide) rfl (by first | kernel_rfl | rfl) ?_ ?_
              · intro w' hS
                have hS : Apped _ _ _ _ _ _ _ w' := hS
                have hk := (hS.keep (b := w.heap.size + 1) (blk_lt HRQ.out) HNL.out.2).trans HRQ.out
                obtain ⟨f0, f1, f2, f3, f4⟩ := five_at hk
                have ff : ∀ j, w'.frozen? ⟨w.heap.size + 1, j, none⟩ = false := fun j => frozen_of_row w' _ j _ _ hk
                have zf := bsz (blk_lt hk)
                clear hk
                go_simp
                exact ⟨w', by rw [upd_other _ _ (by decide)]; exact hS, rfl⟩
              intro x6
              go_simp
              refine chain_next 2 rfl rfl rfl rfl (by decide) rfl (by first | kernel_rfl | rfl) ?_ ?_
              · intro w' hS
                obtain ⟨w2, hA, hw2⟩ := hS
                rw [upd_other _ _ (by decide), upd_same] at hA
                have HA := Lib.hid hA
                have HW2 := Lib.hid hw2
                clear hA hw2
                go_simp
                exact ⟨⟨w2, by rw [upd_other _ _ (by decide), upd_other _ _ (by decide), upd_same]; exact HA.out, HW2.out⟩, by rw [upd_same, upd_other _ _ (by decide), upd_other _ _ (by decide), upd_same]⟩
              intro x7
              refine flowU_nil ?_
              intro wy hz
              obtain ⟨⟨w2, hA, hwy⟩, h7⟩ := hz
              rw [upd_other _ _ (by decide), upd_other _ _ (by decide), upd_same] at hA
              rw [upd_same, upd_other _ _ (by decide), upd_other _ _ (by decide), upd_same] at h7
              subst h7
              have hrow2 := hA.1 base (flatD D1) HLV.out hbs
              obtain ⟨q2, k2, rfl⟩ := own_form hrow2 (Nat.succ_pos _)
              have hw2z : wr.heap.size < w2.heap.size := hA.2.2.2
              have hxcs : DC.cs ⟨dNm n, vfD y.f, pv, cv, y⟩ = [.string (dNm n), .slice pv (vfD y.f).length cv, .int .i64 5, .string a.n, .slice pb a.us.length cb, .string xv, .slice q ps.length d] := by
                show _ :: _ :: y.cs = _
                rw [HYC.out]
              have hnr2 : NewRow (.slice pl D1.length cl) (.slice (some ⟨q2, 0, none⟩) (D1.length + 1) k2) wz.heap.size := hA.2.2.1.imp id (fun ⟨g', e, h⟩ => ⟨g', e, by have h : wr.heap.size ≤ g' := h; omega⟩)
              have hown2 : ∀ b, (Value.slice (some ⟨q2, 0, none⟩) (D1.length + 1) k2).ownBlock = some b → X1 b ∨ wr.heap.size ≤ b := fun b e => hA.2.2.1.elim (fun h => .inl (HDZ.out.xl b (h ▸ e))) (fun ⟨g', h, hge⟩ => .inr (by rw [h] at e; injection e with e; have hge : wr.heap.size ≤ g' := hge; omega))
              have hkeep : ∀ b, b < wz.heap.size → (Value.slice pl D1.length cl).ownBlock ≠ some b → w2.heap[b]? = wz.heap[b]? := fun b hb hno => (hA.keep (b := b) (show b < wr.heap.size by omega) hno).trans ((HBQ.out.block b hb).trans (HBt.out.block b hb))
              have hS2 := HDZ.out.grown (x := ⟨dNm n, vfD y.f, pv, cv, y⟩) (w4 := w2) (by rw [hxcs]; exact hrow2) hnr2 hkeep (by omega)
              have hrX2 : ¬ (X1 (w.heap.size + 1) ∨ (Value.slice (some ⟨q2, 0, none⟩) (D1.length + 1) k2).ownBlock = some (w.heap.size + 1)) := fun e => e.elim hrX (fun e => (hown2 _ e).elim hrX (fun e => by have := blk_lt HRZ.out; omega))
              have hzy : wy.heap.size = w2.heap.size := by rw [hwy]; simp
              have HSY := Lib.hid (show SSt us base g n (E1 ++ [⟨dNm n, vfD y.f, y.f⟩]) uv (.slice (some ⟨q2, 0, none⟩) (D1.length + 1) k2) (D1 ++ [⟨dNm n, vfD y.f, pv, cv, y⟩]) (fun b => X1 b ∨ (Value.slice (some ⟨q2, 0, none⟩) (D1.length + 1) k2).ownBlock = some b) wy from hS2.stab ⟨by rw [hwy]; rfl, by rw [hwy]; rfl, by rw [hwy]; rfl, by omega, fun b _ hn => by rw [hwy]; exact set5C_other _ _ _ _ _ _ (fun e => hrX2 (e ▸ Classical.not_not.1 hn))⟩)
              have HKY := Lib.hid (show Kp X w wy by
                have hq := HBQ.out
                have ht := HBt.out
                have hk := HKZ.out
                have hg := hA.2.1
                refine ⟨?_, ?_, ?_, by have := hk.size; omega, fun b hb hn => ?_⟩
                · rw [hwy]; exact hg.os.trans (hq.os.trans (ht.os.trans hk.os))
                · rw [hwy]; exact hg.tape.trans (hq.tape.trans (ht.tape.trans hk.tape))
                · rw [hwy]; exact hg.output.trans (hq.output.trans (ht.output.trans hk.output))
                · have hbz : b < wz.heap.size := by have := hk.size; omega
                  rw [hwy]
                  refine (set5C_other _ _ _ _ _ _ (by omega)).trans ((hkeep b hbz (fun e => ?_)).trans (hk.block b hb hn))
                  exact (HXX.out b (HDZ.out.xl b e)).elim hn (fun e => by omega))
              have HRY := Lib.hid (show wy.ownsRow Wt.heap.size 26 2 (.slice qa (vfD y.f).length da) (vfD y.f).length (flatT ((vfD y.f).map leafC)) by
                have h1 := HRW.out
                rw [List.take_length] at h1
                refine own_same h1 (fun b hb hl => ?_)
                have := own_base h1 b hb
                rw [hwy]
                exact (set5C_other _ _ _ _ _ _ (by have := blk_lt HRZ.out; omega)).trans (hA.2.1.block b hl (fun e => by have := HDZ.out.foot b (HDZ.out.xl b e.symm); omega)))
              have hqa : ∀ b, (Value.slice qa (vfD y.f).length da).ownBlock = some b → b < wr.heap.size := fun b e => own_lt' HRW.out e
              have HRB := Lib.hid (show wy.heap[w.heap.size + 1]? = some (.cells #[.int .i64 3, .string (dNm n), .slice qa (vfD y.f).length da, .string ⟨#[]⟩, .slice none 0 0] 29 (0, 0)) from hwy ▸ set5_cells w2 ((hA.keep (b := w.heap.size + 1) (blk_lt HRQ.out) HNL.out.2).trans HRQ.out))
              have hnm7 : n ≤ 10000000 := by
                have h1 := nextD_le (k := K1) hS
                have := HN.out
                omega
              have hvs7 : ∀ s ∈ vfD y.f, s.size ≤ maxLen := fun s hs => by
                have := vfD_var HOK.out.1 s hs
                simp only [varB, Bool.and_eq_true, decide_eq_true_eq] at this
                have h2 : s.size = s.data.toList.length := by rw [Array.length_toList]; rfl
                unfold maxLen; omega
              have hvl7 : (vfD y.f).length ≤ maxLen := by unfold maxLen; omega
              have HNS := Lib.hid (And.intro hvs7 (And.intro hvl7 hnm7))
              have HPL := Lib.hid (show ((vfD y.f).map leafT).length = (vfD y.f).length from List.length_map ..)
              have HO2 := Lib.hid hown2
              have HQA := Lib.hid hqa
              have hyl : wr.heap.size < wy.heap.size := by omega
              clear hwy hzy hA hrow2 hxcs hnr2 hown2 hkeep hS2 hrX2 hqa hnm7 hvs7 hvl7 b0 b1 bf zb2 t0 t1 t2 t3 t4 t5 t6 zt
              obtain ⟨r0, r1, r2, r3, r4⟩ := five_at HRB.out
              have rf : ∀ j, wy.frozen? ⟨w.heap.size + 1, j, none⟩ = false := fun j => frozen_of_row wy _ j _ _ HRB.out
              have zr := bsz (blk_lt HRB.out)
              go_wp2_with fail
              go_wp2
              refine bodyPost_ret (v := .tuple #[.agg #[.int .i64 3, .string (dNm n), .slice qa (vfD y.f).length da, .string ⟨#[]⟩, .slice none 0 0], .slice (some ⟨q2, 0, none⟩) (D1.length + 1) k2]) (by simp only [results, Tryz.results19]; go_simp) rfl ⟨_, rfl, ⟨⟨atomOfF (Dfn.atm ⟨dNm n, vfD y.f, y.f⟩), qa, da, none, 0⟩, (fun b => X1 b ∨ (Value.slice (some ⟨q2, 0, none⟩) (D1.length + 1) k2).ownBlock = some b), .slice (some ⟨q2, 0, none⟩) (D1.length + 1) k2, D1 ++ [⟨dNm n, vfD y.f, pv, cv, y⟩], ?_, ?_, ?_, ?_, ?_⟩, HKY.out⟩
              · show _ = Value.tuple #[.agg #[.int .i64 3, .string (dNm n), .slice qa ((vfD y.f).map leafT).length da, .string ⟨#[]⟩, .slice none 0 0], _]
                rw [HPL.out]
              · rw [HDN.out]
              · show FmAt _ (m + 1 + 3) wy (atomOfF _) [.int .i64 3, .string (dNm n), .slice qa ((vfD y.f).map leafT).length da, .string ⟨#[]⟩, .slice none 0 0]
                rw [HPL.out]
                refine ⟨_, _, _, rfl, by omega, Nat.zero_le _, TmAt.mono (B := fun b => (Value.slice qa (vfD y.f).length da).ownBlock = some b) (SameOn.refl _ _) (fun b hb => ?_) 2 (m + 3) _ _ (by omega) ⟨_, rfl, dNm_small HNS.out.2.2, leafs_own HRY.out HNS.out.1 HNS.out.2.1⟩, ListAt.nil _ _ _ _ _ _⟩
                have h1 := own_base HRY.out b hb
                have h2 := HQA.out b hb
                have hkz := HKZ.out.size
                refine ⟨by omega, by omega, fun e => ?_⟩
                have h3 : X1 b → False := fun e => by have := HDZ.out.foot b e; omega
                exact e.elim h3 (fun e => (HO2.out b e).elim h3 (fun e => by omega))
              · rw [HDN.out]
                show SSt us base g n (E ++ (RL.2.2 ++ [_])) uv _ _ _ wy
                rw [← List.append_assoc, ← HE1.out]
                exact HSY.out
              · intro b e
                have hf := HSY.out.foot b e
                have hkz := HKZ.out.size
                have h3 : X1 b → X b ∨ (w.heap.size ≤ b ∧ b < wy.heap.size) := fun e => (HXX.out b e).imp id (fun e => ⟨by omega, hf⟩)
                exact e.elim h3 (fun e => (HO2.out b e).elim h3 (fun e => .inr ⟨by omega, hf⟩))
        · have HDN := Lib.hid (show dfn (inS us) vfD (.mk op a xv ps) b k = (.mk op a xv RL.1, RL.2.1, RL.2.2) by
            rw [dfn, ← HRP.out]
            simp only
            rw [if_neg]
            intro h
            rw [Bool.and_eq_true, beq_iff_eq] at h
            exact hb5 h)
          obtain ⟨r0, r1, r2, r3, r4⟩ := five_at HR.out
          have rf : ∀ j, wr.frozen? ⟨w.heap.size + 1, j, none⟩ = false := fun j => frozen_of_row wr _ j _ _ HR.out
          have zr := bsz (blk_lt HR.out)
          cases b
          · clear hb5
            go_wp2
            have hge : w.heap.size ≤ w.heap.size + 1 := by omega
            have hdm : (DF.map (·.f)).length = DF.length := List.length_map ..
            refine bodyPost_ret (v := .tuple #[.agg #[.int .i64 op, .string a.n, .slice pb a.us.length cb, .string xv, .slice q ps.length d], .slice pl D1.length cl]) (by simp only [results, Tryz.results19]; go_simp) rfl ⟨_, rfl, ⟨⟨.mk op a xv (DF.map (·.f)), pb, cb, q, d⟩, X1, .slice pl D1.length cl, D1, ?_, ?_, ?_, ?_, ?_⟩, ?_⟩
            · show _ = Value.tuple #[.agg #[.int .i64 op, .string a.n, .slice pb a.us.length cb, .string xv, .slice q (DF.map (·.f)).length d], _]
              rw [hdm, HDI.out]
            · rw [HDN.out]
              show Fm.mk op a xv (DF.map (·.f)) = _
              rw [HDM.out]
            · show FmAt _ _ _ _ [.int .i64 op, .string a.n, .slice pb a.us.length cb, .string xv, .slice q (DF.map (·.f)).length d]
              rw [hdm, HDI.out]
              have hl := HFO.out.at_
              refine ⟨_, _, _, rfl, HOP.out.1, HOP.out.2, ?_, ?_⟩
              · have hsm : SameOn (fun b => W.heap.size ≤ b ∧ b < w4.heap.size ∧ b ≠ bk) w4 wr := fun b hb hl => HKP.out.block b hl (fun e => e.elim (fun e => by have := HIX.out _ e; omega) hb.2.2)
                refine TmAt.mono (SameOn.sc (SameOn.sc (SameOn.sc (SameOn.sc (SameOn.sc hsm ?_ _) ?_ _) ?_ _) ?_ _) ?_ _) (fun b hb => ⟨by omega, by simp; omega, fun e => (HXX.out _ e).elim (fun e => by have := HIX.out _ e; omega) (fun e => by omega)⟩) _ _ _ _ (by omega) HTM.out
                all_goals (intro b hb e; simp at e; omega)
              · refine hl.mono ((((((SameOn.refl _ _).sc ?_ _).sc ?_ _).sc ?_ _).sc ?_ _).sc ?_ _) (fun b hb => ⟨by omega, by simp; omega, hb.2.2⟩) (fun y cs _ hy => FmAt.mono ((((((SameOn.refl _ _).sc ?_ _).sc ?_ _).sc ?_ _).sc ?_ _).sc ?_ _) (fun b hb => ⟨by omega, by simp; omega, hb.2.2⟩) _ _ _ _ (by omega) hy)
                all_goals (intro b hb e; simp at e; omega)
            · rw [HDN.out]
              exact HST.out.stab ((((((Kp.refl _ _).sc (.inl hrX) _).sc (.inl hrX) _).sc (.inl hrX) _).sc (.inl hrX) _).sc (.inl hrX) _)
            · intro b e
              have := HST.out.foot b e
              exact (HXX.out b e).imp id (fun e => ⟨by omega, by simp; omega⟩)
            · exact ((((HKA.out.sc (.inr hge) _).sc (.inr hge) _).sc (.inr hge) _).sc (.inr hge) _).sc (.inr hge) _
          · have e5 : (op == 5) = false := by rw [beq_eq_false_iff_ne]; exact fun e => hb5 ⟨rfl, e⟩
            clear hb5
            go_wp2
            have hge : w.heap.size ≤ w.heap.size + 1 := by omega
            have hdm : (DF.map (·.f)).length = DF.length := List.length_map ..
            refine bodyPost_ret (v := .tuple #[.agg #[.int .i64 op, .string a.n, .slice pb a.us.length cb, .string xv, .slice q ps.length d], .slice pl D1.length cl]) (by simp only [results, Tryz.results19]; go_simp) rfl ⟨_, rfl, ⟨⟨.mk op a xv (DF.map (·.f)), pb, cb, q, d⟩, X1, .slice pl D1.length cl, D1, ?_, ?_, ?_, ?_, ?_⟩, ?_⟩
            · show _ = Value.tuple #[.agg #[.int .i64 op, .string a.n, .slice pb a.us.length cb, .string xv, .slice q (DF.map (·.f)).length d], _]
              rw [hdm, HDI.out]
            · rw [HDN.out]
              show Fm.mk op a xv (DF.map (·.f)) = _
              rw [HDM.out]
            · show FmAt _ _ _ _ [.int .i64 op, .string a.n, .slice pb a.us.length cb, .string xv, .slice q (DF.map (·.f)).length d]
              rw [hdm, HDI.out]
              have hl := HFO.out.at_
              refine ⟨_, _, _, rfl, HOP.out.1, HOP.out.2, ?_, ?_⟩
              · have hsm : SameOn (fun b => W.heap.size ≤ b ∧ b < w4.heap.size ∧ b ≠ bk) w4 wr := fun b hb hl => HKP.out.block b hl (fun e => e.elim (fun e => by have := HIX.out _ e; omega) hb.2.2)
                refine TmAt.mono (SameOn.sc (SameOn.sc (SameOn.sc (SameOn.sc (SameOn.sc hsm ?_ _) ?_ _) ?_ _) ?_ _) ?_ _) (fun b hb => ⟨by omega, by simp; omega, fun e => (HXX.out _ e).elim (fun e => by have := HIX.out _ e; omega) (fun e => by omega)⟩) _ _ _ _ (by omega) HTM.out
                all_goals (intro b hb e; simp at e; omega)
              · refine hl.mono ((((((SameOn.refl _ _).sc ?_ _).sc ?_ _).sc ?_ _).sc ?_ _).sc ?_ _) (fun b hb => ⟨by omega, by simp; omega, hb.2.2⟩) (fun y cs _ hy => FmAt.mono ((((((SameOn.refl _ _).sc ?_ _).sc ?_ _).sc ?_ _).sc ?_ _).sc ?_ _) (fun b hb => ⟨by omega, by simp; omega, hb.2.2⟩) _ _ _ _ (by omega) hy)
                all_goals (intro b hb e; simp at e; omega)
            · rw [HDN.out]
              exact HST.out.stab ((((((Kp.refl _ _).sc (.inl hrX) _).sc (.inl hrX) _).sc (.inl hrX) _).sc (.inl hrX) _).sc (.inl hrX) _)
            · intro b e
              have := HST.out.foot b e
              exact (HXX.out b e).imp id (fun e => ⟨by omega, by simp; omega⟩)
            · exact ((((HKA.out.sc (.inr hge) _).sc (.inr hge) _).sc (.inr hge) _).sc (.inr hge) _).sc (.inr hge) _
end Go.Proofs.YtmbkjdkjemlfkaaGreatDoor
