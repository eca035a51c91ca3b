import Derived.Test.YtmbkjdkjemlfkaaGreatDoorDfPart28
namespace Go.Proofs.YtmbkjdkjemlfkaaGreatDoor
set_option maxRecDepth 100000
open Go.RowKit
def lookT (L : List (ByteArray × TC)) (s : ByteArray) : Option Tm := (findC L s).map (·.t)
theorem repTs_len (s : ByteArray → Option Tm) : ∀ us : List Tm, (repTs s us).length = us.length
  | [] => by rw [repTs]
  | a :: us => by rw [repTs, List.length_cons, List.length_cons, repTs_len s us]
theorem repTs_snoc (s : ByteArray → Option Tm) (y : Tm) : ∀ us : List Tm, repTs s (us ++ [y]) = repTs s us ++ [repT s y]
  | [] => by rw [List.nil_append, repTs, repTs, repTs]; rfl
  | a :: us => by rw [List.cons_append, repTs, repTs, repTs_snoc s y us]; rfl
def RvQ (n : Nat) (t : Tm) (w : World) (e : Ending) (w' : World) : Prop := ∃ y : TC, e = .returned (.agg y.cs.toArray) ∧ y.t = t ∧ TmAt (fun b => w.heap.size ≤ b ∧ b < w'.heap.size) n w' y.t y.cs ∧ Below w.heap.size w w'
def RvC (n : Nat) (t : Tm) (w : World) (x : Value) (w' : World) : Prop := ∃ y : TC, x = .agg y.cs.toArray ∧ y.t = t ∧ TmAt (fun b => w.heap.size ≤ b ∧ b < w'.heap.size) n w' y.t y.cs ∧ Below w.heap.size w w'
theorem findC_mem {L : List (ByteArray × TC)} {s : ByteArray} {x : TC} (h : findC L s = some x) : ∃ p ∈ L, p.2 = x := by
  rw [findC] at h
  cases hf : L.reverse.find? (fun p => sameN p.1 s) with
  | none => rw [hf] at h; cases h
  | some p =>
    rw [hf] at h
    exact ⟨p, (find_rev_mem hf).1, Option.some.inj h⟩
structure MapOk (base M g n : Nat) (L : List (ByteArray × TC)) (w : World) : Prop where
  map : MapT w g n L
  lt : g < base
  each : ∀ p ∈ L, TmAt (fun b => b < base) M w p.2.t p.2.cs ∧ p.2.t.wt ≤ 1000000
theorem MapOk.below {base M g n k : Nat} {L : List (ByteArray × TC)} {w w' : World} (h : MapOk base M g n L w) (hb : Below k w w') (hk : base ≤ k := by omega) : MapOk base M g n L w' :=
  ⟨h.map.kept (hb.block _ (Nat.lt_of_lt_of_le h.lt hk)), h.lt, fun p hp => ⟨TmAt.mono (fun b hb' _ => hb.block b (Nat.lt_of_lt_of_le hb' hk)) (fun _ h => h) _ _ _ _ (Nat.le_refl _) (h.each p hp).1, (h.each p hp).2⟩⟩
set_option maxHeartbeats 12800000 in
theorem repVars_any (base M g nn : Nat) (L : List (ByteArray × TC)) : ∀ (m : Nat) (t : Tm) (v0 v1 : Value) (w : World), TmAt (fun b => b < base) m w t [v0, v1] → base ≤ w.heap.size → MapOk base M g nn L w → t.wt ≤ 1000000 →
    Calls Tryz.prog 82 #[.agg #[v0, v1], .map (some g)] w (RvQ (m + M) (repT (lookT L) t) w) := by
  intro m
  induction m with
  | zero => intro t v0 v1 w h; exact h.elim
  | succ m ih =>
    rintro ⟨n, us⟩ v0 v1 w ⟨va, he, hn, hl⟩ hb hmo hw
    simp only [List.cons.injEq, and_true] at he
    obtain ⟨rfl, rfl⟩ := he
    obtain ⟨p, c, rfl, hlen⟩ := hl.form
    unfold maxLen at hlen
    rw [Tm.wt] at hw
    have HN := Lib.hid hn
    have IH := Lib.hid ih
    have HL := Lib.hid hl
    have HMO := Lib.hid hmo
    obtain ⟨W, hW⟩ : ∃ W : World, W = (w.alloc (.cells #[.string n, .slice p us.length c] 26)).alloc (.cells #[.string ⟨#[]⟩, .slice none 0 0] 26) := ⟨_, rfl⟩
    obtain ⟨hsW, hbW, A0, A1⟩ := two_new hW
    obtain ⟨a0, a1, af⟩ := cells2_cell A0
    have za := bsz (show w.heap.size < W.heap.size by omega)
    have HA0 := Lib.hid A0
    have HR0 := Lib.hid A1
    have HBW := Lib.hid hbW
    have hlk := (hmo.below hbW).map.look n hn
    clear hn ih hl hmo A0 A1 hbW
    cases hf : findC L n with
    | none =>
      rw [hf] at hlk
      replace hlk : (Instr.lookup 86 (.map (some g)) (.string n) true).run Tryz.prog W = .ok (.tuple #[.agg #[.string ⟨#[]⟩, .slice none 0 0], .bool false]) W := hlk
      have HRT := Lib.hid (show repT (lookT L) (.mk n us) = .mk n (repTs (lookT L) us) by rw [repT, lookT, hf]; rfl)
      clear hf
      go_enter Tryz.func82, Tryz.ntmps82
      go_wp2_with fail
      rw [← hW]
      clear hW
      go_wp2_with fail
      rw [hlk]
      go_wp2
      clear hlk a0 a1 af za
      obtain ⟨W4, hW4⟩ : ∃ q', q' = (W.alloc (.cells #[.string ⟨#[]⟩, .slice none 0 0] 26)).alloc (.cells #[.string n, .slice none 0 0] 26) := ⟨_, rfl⟩
      obtain ⟨hs4, hb4, -, hk4⟩ := two_new hW4
      rw [hsW] at hk4
      have HB4 := Lib.hid (Below.step HBW.out hb4)
      have HK4 := Lib.hid hk4
      have HR4 := Lib.hid ((hb4.block _ (by omega)).trans HR0.out)
      have HA4 := Lib.hid ((hb4.block _ (by omega)).trans HA0.out)
      rw [← hW4]
      clear hW4 hb4 hk4
      go_loopw [32] (fun iv wr => ∃ (i : Nat) (q : Option Addr) (d : Nat) (D : List TC), i ≤ us.length ∧ iv = .int .i64 i ∧ D.length = i ∧ D.map (·.t) = repTs (lookT L) (us.take i) ∧ TOm 26 (m + M) W4.heap.size (w.heap.size + 2 + 1) (fun _ => False) (.string n) (.slice q i d) D wr ∧ Kp (fun b => b = (w.heap.size + 2 + 1)) W4 wr) (fun iv _ => us.length - (intOf iv).toNat)
      case atStart =>
        refine ⟨0, none, 0, [], Nat.zero_le _, rfl, rfl, by rw [List.take_zero, repTs]; rfl, ⟨HK4.out, ⟨by simp [flatT], .inl ⟨rfl, rfl⟩⟩, fun x hx => by simp at hx, by omega, fun e => e, fun b e => fun e => e, by simp⟩, Kp.refl _ _⟩
      case round =>
        obtain ⟨i, q, d, D, hi, rfl, hDi, hDm, hfo, hkp⟩ := hrel
        have HFO := Lib.hid hfo
        have HDI := Lib.hid hDi
        have HDM := Lib.hid hDm
        have HKP := Lib.hid hkp
        have hzr := hkp.size
        have HWR := Lib.hid (show Below w.heap.size w wr from ⟨hkp.os.trans HB4.out.os, hkp.tape.trans HB4.out.tape, hkp.output.trans HB4.out.output, by omega, fun b hb => (hkp.block b (by omega) (by omega)).trans (HB4.out.block b hb)⟩)
        obtain ⟨c0, c1, cf, ck⟩ := hfo.cells
        have zk := bsz ck
        obtain ⟨a0, a1, af⟩ := cells2_cell ((hkp.block w.heap.size (by omega) (by omega)).trans HA4.out)
        have za := bsz (show w.heap.size < wr.heap.size by omega)
        clear hfo hkp hDi hDm
        by_cases hlt : i < us.length
        · have hlti : (i : Int) < us.length := by omega
          obtain ⟨b, o, hpe, hBb, x0, x1, hx0, hx1, hx⟩ := (HL.out.mono (SameOn.below HWR.out) (fun _ h => h) (fun x cs _ hx => TmAt.below HWR.out hx)).at2 hlt
          obtain ⟨y, hy⟩ : ∃ y, us[i] = y := ⟨_, rfl⟩
          have HTK := Lib.hid (show us.take (i + 1) = us.take i ++ [y] by rw [List.take_succ_eq_append_getElem hlt, hy])
          have hyw : y.wt ≤ Tm.wts us := by rw [← hy]; exact Tm.wts_le us hlt
          rw [hy] at hx
          obtain ⟨py, cy, rfl, rfl, -⟩ := hx.form
          have HX := Lib.hid hx
          have zb := bsz (World.block_lt_of_cell? _ _ hx0)
          subst hpe
          clear hx hy c0
          go_wp2_with fail
          go_wp2
          obtain ⟨W5, hW5⟩ : ∃ q', q' = wr.alloc (.cells #[.string y.n, .slice py y.us.length cy] 26) := ⟨_, rfl⟩
          have hs5 : W5.heap.size = wr.heap.size + 1 := by rw [hW5]; simp
          have hb5 : Below wr.heap.size wr W5 := by rw [hW5]; exact (Below.refl _ _).alloc (Nat.le_refl _) _
          have B5 := Lib.hid (show W5.heap[wr.heap.size]? = some (.cells #[.string y.n, .slice py y.us.length cy] 26 (0, 0)) by rw [hW5]; exact heap_alloc_new wr _)
          rw [← hW5]
          clear hW5
          have HF5 := Lib.hid (HFO.out.kp (X' := fun _ => False) (Kp.of_below hb5) (fun b e => .inl e))
          have HX5 := Lib.hid (TmAt.below hb5 HX.out)
          have HB5 := Lib.hid hb5
          have HW5 := Lib.hid (Below.step HWR.out hb5)
          have HKG := Lib.hid (show ∀ c, c < W5.heap.size → ∀ x w1, RvC (m + M) (repT (lookT L) y) W5.drew x w1 → w1.heap[c]? = W5.heap[c]? ∧ c < w1.heap.size from fun c hc x w1 ⟨_, _, _, _, hk⟩ => ⟨hk.block c hc, Nat.lt_of_lt_of_le hc hk.size⟩)
          have HVB := Lib.hid (show ∀ b, (Value.slice q i d).ownBlock = some b → W4.heap.size ≤ b ∧ b < wr.heap.size from fun b e => ⟨own_base HFO.out.row b e, own_lt' HFO.out.row e⟩)
          have HC4 := Lib.hid (show W5.cell? ⟨(w.heap.size + 2 + 1), 1, none⟩ = some (.slice q i d) from HF5.out.cells.2.1)
          clear hb5 c1 cf hx0 hx1
          refine wp_region_stages [some (.pointer (some ⟨(w.heap.size + 2 + 1), 1, none⟩)), some (.slice q i d), some (.agg #[.string y.n, .slice py y.us.length cy]), some (.map (some g)), none, none, none, some (.pointer (some ⟨(w.heap.size + 2 + 1), 1, none⟩)), none] [4, 5, 6, 8] (AppG 26 2 (w.heap.size + 2 + 1) 1 (RvC (m + M) (repT (lookT L) y) W5.drew) (.slice q i d) i W5 4 5 6) (by kernel_rfl) (by kernel_rfl) (by first | kernel_rfl | rfl) (by rfl) rfl ?_
          refine chain_st rfl rfl (by decide) rfl (by intro j u w' hS; go_simp; first | done | exact ⟨hS, rfl⟩ | exact hS | rfl) ?_
          go_simp
          refine chain_stb (c := 6) 2 rfl rfl (by decide) rfl rfl rfl (by first | kernel_rfl | rfl) ?_ ?_
          · intro j u w' hj hS
            have hc : w'.cell? ⟨(w.heap.size + 2 + 1), 1, none⟩ = _ := (World.cell?_of_block (AppG.cell2 (HKG.out (w.heap.size + 2 + 1) (by omega)) hj hS)).trans HC4.out
            go_simp
            first | done | exact ⟨hS, rfl⟩ | exact hS | rfl
          go_simp
          refine chain_st rfl rfl (by decide) rfl (by
            intro j u w' hS
            have hk := AppG.keep (c := wr.heap.size) (by omega) (HKG.out wr.heap.size (by omega)) (fun e => by have := HVB.out _ e; omega) (by omega) hS
            obtain ⟨e0, e1, ef⟩ := cells2_cell (hk.trans B5.out)
            have ze := bsz (World.block_lt_of_cell? _ _ e0)
            go_simp
            first | done | exact ⟨hS, rfl⟩ | exact hS | rfl) ?_
          go_simp
          refine chain_st rfl rfl (by decide) rfl (by intro j u w' hS; go_simp; first | done | exact ⟨hS, rfl⟩ | exact hS | rfl) ?_
          go_simp
          refine chain_first rfl rfl rfl (by decide) rfl ?_ ?_
          · intro w' hS
            obtain rfl : w' = W5.drew := hS
            go_simp
            refine (IH.out y _ _ W5.drew (TmAt.below ((Below.refl _ _).drew) HX5.out) (by show base ≤ W5.heap.size; omega) (HMO.out.below (HW5.out.trans ((Below.refl _ _).drew))) (by omega)).mono ?_
            rintro e w'' ⟨x, he, h1, h2, h3⟩
            exact ⟨_, he, by show RvC _ _ _ (upd _ 4 (.agg x.cs.toArray) 4) w''; rw [upd_same]; exact ⟨x, rfl, h1, h2, h3⟩⟩
          intro x
          go_simp
          refine chain_next 0 rfl rfl rfl rfl (by decide) rfl (by first | kernel_rfl | rfl) ?_ ?_
          · intro w' hS
            have hS : RvC (m + M) (repT (lookT L) y) W5.drew (upd _ 4 x 4) w' := hS
            rw [upd_same] at hS
            obtain ⟨y', rfl, h1, h2, h3⟩ := id hS
            go_simp
            exact ⟨w', y'.cs.toArray, hS, by rw [upd_same], rfl⟩
          intro x2
          go_simp
          refine chain_next 1 rfl rfl rfl rfl (by decide) rfl (by first | kernel_rfl | rfl) ?_ ?_
          · intro w' hS
            obtain ⟨w1', cs, hcp, hy, rfl⟩ := hS
            rw [upd_same] at hy
            subst hy
            obtain ⟨y', he, h1, h2, h3⟩ := id hcp
            simp only [Value.agg.injEq] at he
            subst he
            obtain ⟨vals, r1⟩ : ∃ vals, W5.ownsRow 0 26 2 (.slice q i d) i vals := ⟨_, by have := HF5.out.row; rw [HDI.out] at this; exact own_lower this (Nat.zero_le _)⟩
            refine each_app1 (.tmp 37) (.tmp 41) _ rfl 0 26 2 40 elemTmA (.slice q i d) i vals rfl w1' y'.cs.toArray rfl rfl (own_same r1 (fun b hb hl => h3.block b hl)) rfl (by intro u hu; simp [TC.cs] at hu; rcases hu with rfl | rfl <;> rfl) (by omega) (by unfold maxLen; omega) (Nat.zero_le _) ?_
            intro v' w3 happ hg3 hnr hsz
            exact ⟨w1', _, hcp, by rw [upd_same]; exact happ, hg3, by rw [upd_same]; exact hnr, hsz⟩
          intro x3
          go_simp
          refine chain_st rfl rfl (by decide) rfl (by intro j u w' hS; go_simp; first | done | exact ⟨hS, rfl⟩ | exact hS | rfl) ?_
          go_simp
          refine chain_next 2 rfl rfl rfl rfl (by decide) rfl (by first | kernel_rfl | rfl) ?_ ?_
          · intro w' hS
            obtain ⟨w1', cs, hcp, happ, hg3, hnr, hsz⟩ := hS
            rw [upd_same] at happ hnr
            obtain ⟨y', he, h1, h2, h3⟩ := id hcp
            have hz5 : W5.heap.size ≤ w1'.heap.size := h3.size
            have r1 := HF5.out.row
            rw [HDI.out] at r1
            have h1' := happ _ _ (own_same r1 (fun b hb hl => h3.block b hl)) (by omega)
            obtain ⟨q', c', rfl⟩ := own_form h1' (by omega)
            have hbt : w'.heap[(w.heap.size + 2 + 1)]? = some (.cells #[.string n, .slice q i d] 26 (0, 0)) := (hg3.block _ (by omega) (fun e => HFO.out.nk e.symm)).trans ((h3.block _ (by show (w.heap.size + 2 + 1) < W5.heap.size; omega)).trans HF5.out.box)
            have hcell : w'.cell? ⟨(w.heap.size + 2 + 1), 1, none⟩ = some (.slice q i d) := by rw [cell_of_row w' _ 1 _ _ (0, 0) hbt]; rfl
            have hfro : w'.frozen? ⟨(w.heap.size + 2 + 1), 1, none⟩ = false := frozen_of_row w' _ 1 _ _ hbt
            clear hbt
            go_simp
            refine ⟨w1', w', cs, hcp, ?_, hg3, ?_, hsz, ?_⟩
            · rw [upd_other _ _ (by decide), upd_same]; exact happ
            · rw [upd_other _ _ (by decide), upd_same]; exact hnr
            · rw [upd_other _ _ (by decide), upd_same]
          intro x4
          refine flowU_nil ?_
          intro wz hz
          obtain ⟨w1', w3', cs, hcp, happ, hg3, hnr, hsz, rfl⟩ := hz
          simp only [upd_other _ _ (show (6 : Nat) ≠ 8 by decide), upd_same] at happ hnr
          rw [upd_other _ _ (by decide), upd_same]
          obtain ⟨y', he, h1, h2, h3⟩ := hcp
          simp only [Value.agg.injEq] at he
          subst he
          have hk5 : Kp (fun _ => False) W5 w1' := ⟨h3.os, h3.tape, h3.output, h3.size, fun b hb _ => h3.block b hb⟩
          have hz1 := hk5.size
          have hz3 := hg3.size
          have r1 := HF5.out.row
          rw [HDI.out] at r1
          have h1' := happ _ _ (own_same r1 (fun b hb hl => hk5.block b hl (fun e => e))) (by omega)
          obtain ⟨q', c', rfl⟩ := own_form h1' (by omega)
          obtain ⟨hF6, -⟩ := HF5.out.app (X' := fun _ => False) (v' := .slice (some ⟨q', 0, none⟩) (i + 1) c') hk5 (fun b e => e.elim) (fun b e => e.elim) (TmAt.mono (SameOn.refl _ _) (fun b hb => ⟨hb.1, hb.2, fun e => e⟩) _ _ _ _ (Nat.le_refl _) h2) (by omega) (by rw [HDI.out]; exact happ) hg3 hnr (by rw [HDI.out]; omega)
          have HF6 := Lib.hid hF6
          have HK6 := Lib.hid (show Kp (fun b => b = (w.heap.size + 2 + 1)) W4 (w3'.setCell ⟨(w.heap.size + 2 + 1), 1, none⟩ (.slice (some ⟨q', 0, none⟩) (i + 1) c')) from
            (((HKP.out.be HB5.out).trans hk5 (fun b e => e.elim)).trans (Kp.of_gr hg3) (fun b e => .inr (HVB.out b e).1)).sc (.inl rfl) _)
          have HD6 := Lib.hid (show (D ++ [y']).map (·.t) = repTs (lookT L) (us.take (i + 1)) by rw [List.map_append, HDM.out, HTK.out, repTs_snoc, List.map_singleton, h1])
          clear happ hg3 hnr hsz r1 h1' h1 h2 h3 hk5 hF6
          go_wp2
          exact ⟨⟨i + 1, some ⟨q', 0, none⟩, c', D ++ [y'], by omega, by go_num, by rw [List.length_append, HDI.out]; rfl, HD6.out, HF6.out, HK6.out⟩, by simp [intOf]; omega⟩
        · obtain rfl : i = us.length := by omega
          have HR := Lib.hid ((HKP.out.block (w.heap.size + 1) (by omega) (by omega)).trans HR4.out)
          obtain ⟨r0, r1, rf⟩ := cells2_cell HR.out
          have zr := bsz (show w.heap.size + 1 < wr.heap.size by omega)
          go_wp2
          refine bodyPost_ret (v := .agg #[.string n, .slice q us.length d]) (by simp only [results, Tryz.results82]; go_simp) rfl ⟨⟨repT (lookT L) (.mk n us), q, d⟩, ?_, rfl, ?_, ?_⟩
          · rw [HRT.out]
            show _ = Ending.returned (.agg #[.string n, .slice q (repTs (lookT L) us).length d])
            rw [repTs_len]
          · rw [HRT.out]
            show TmAt _ _ _ _ [.string n, .slice q (repTs (lookT L) us).length d]
            rw [repTs_len]
            have hl := HFO.out.at_
            have hdm := HDM.out
            rw [List.take_length] at hdm
            rw [hdm] at hl
            rw [show m + 1 + M = (m + M) + 1 by omega]
            refine ⟨_, rfl, HN.out, hl.mono (((SameOn.refl _ _).sc ?_ _).sc ?_ _) (fun b hb => ⟨by omega, by simp; omega⟩) (fun y cs _ hy => TmAt.mono (((SameOn.refl _ _).sc ?_ _).sc ?_ _) (fun b hb => ⟨by omega, by simp; omega⟩) _ _ _ _ (Nat.le_refl _) hy)⟩
            all_goals (intro b hb e; simp at e; omega)
          · have hk := HWR.out
            exact bel
    | some x =>
      rw [hf] at hlk
      replace hlk : (Instr.lookup 86 (.map (some g)) (.string n) true).run Tryz.prog W = .ok (.tuple #[.agg #[.string x.t.n, .slice x.p x.t.us.length x.c], .bool true]) W := hlk
      by_cases hu : us = []
      · have HRT := Lib.hid (show repT (lookT L) (.mk n us) = x.t by rw [hu, repT, lookT, hf]; rfl)
        have h0i : ((us.length : Int) == 0) = true := by rw [hu]; rfl
        clear hu
        obtain ⟨pr, hpr, hpx⟩ := findC_mem hf
        obtain ⟨hxt, hxw⟩ := HMO.out.each pr hpr
        rw [hpx] at hxt hxw
        have HXT := Lib.hid hxt
        clear hf hxt hpr hpx
        go_enter Tryz.func82, Tryz.ntmps82
        go_wp2_with fail
        rw [← hW]
        clear hW
        go_wp2_with fail
        rw [hlk]
        go_wp2_with fail
        obtain ⟨W3, hW3⟩ : ∃ q', q' = W.alloc (.cells #[.string x.t.n, .slice x.p x.t.us.length x.c] 26) := ⟨_, rfl⟩
        have hs3 : W3.heap.size = W.heap.size + 1 := by rw [hW3]; simp
        have hb3 : Below W.heap.size W W3 := by rw [hW3]; exact (Below.refl _ _).alloc (Nat.le_refl _) _
        have HB3 := Lib.hid (Below.step HBW.out hb3)
        have HR3 := Lib.hid ((hb3.block _ (by omega)).trans HR0.out)
        rw [← hW3]
        clear hW3 hlk hb3
        refine (copyTerm_any M x.t _ _ W3 (TmAt.below HB3.out HXT.out) (by omega)).mono ?_
        rintro e w1 ⟨u0, u1, rfl, hO, hb1⟩
        obtain ⟨pn, cn, rfl, rfl, -⟩ := hO.form
        have HO := Lib.hid (TmAt.inb _ _ _ hO)
        have HB1 := Lib.hid (Below.step HB3.out hb1)
        have HR := Lib.hid ((hb1.block _ (by omega)).trans HR3.out)
        have hz1 := hb1.size
        obtain ⟨r0, r1, rf⟩ := cells2_cell HR.out
        have zr := bsz (blk_lt HR.out)
        clear hO hb1 a0 a1 af za
        go_wp2
        refine bodyPost_ret (v := .agg #[.string x.t.n, .slice pn x.t.us.length cn]) (by simp only [results, Tryz.results82]; go_simp) rfl ⟨⟨x.t, pn, cn⟩, rfl, HRT.out.symm, ?_, ?_⟩
        · refine TmAt.mono (((SameOn.refl _ _).sc ?_ _).sc ?_ _) (fun b hb => ⟨by omega, by simp; omega⟩) _ _ _ _ (by omega) HO.out
          all_goals (intro b hb e; simp at e; omega)
        · have hk := HB1.out
          exact bel
      · have hln : 0 < us.length := List.length_pos_iff.2 hu
        have HRT := Lib.hid (show repT (lookT L) (.mk n us) = .mk n (repTs (lookT L) us) by
          rw [repT, lookT, hf]
          cases us with
          | nil => simp at hu
          | cons z us => rfl)
        have hne : ((us.length : Int) == 0) = false := by rw [beq_eq_false_iff_ne]; omega
        clear hf hu
        go_enter Tryz.func82, Tryz.ntmps82
        go_wp2_with fail
        rw [← hW]
        clear hW
        go_wp2_with fail
        rw [hlk]
        go_wp2
        clear hlk a0 a1 af za
        obtain ⟨W4, hW4⟩ : ∃ q', q' = (W.alloc (.cells #[.string x.t.n, .slice x.p x.t.us.length x.c] 26)).alloc (.cells #[.string n, .slice none 0 0] 26) := ⟨_, rfl⟩
        obtain ⟨hs4, hb4, -, hk4⟩ := two_new hW4
        rw [hsW] at hk4
        have HB4 := Lib.hid (Below.step HBW.out hb4)
        have HK4 := Lib.hid hk4
        have HR4 := Lib.hid ((hb4.block _ (by omega)).trans HR0.out)
        have HA4 := Lib.hid ((hb4.block _ (by omega)).trans HA0.out)
        rw [← hW4]
        clear hW4 hb4 hk4
        go_loopw [32] (fun iv wr => ∃ (i : Nat) (q : Option Addr) (d : Nat) (D : List TC), i ≤ us.length ∧ iv = .int .i64 i ∧ D.length = i ∧ D.map (·.t) = repTs (lookT L) (us.take i) ∧ TOm 26 (m + M) W4.heap.size (w.heap.size + 2 + 1) (fun _ => False) (.string n) (.slice q i d) D wr ∧ Kp (fun b => b = (w.heap.size + 2 + 1)) W4 wr) (fun iv _ => us.length - (intOf iv).toNat)
        case atStart =>
          refine ⟨0, none, 0, [], Nat.zero_le _, rfl, rfl, by rw [List.take_zero, repTs]; rfl, ⟨HK4.out, ⟨by simp [flatT], .inl ⟨rfl, rfl⟩⟩, fun x hx => by simp at hx, by omega, fun e => e, fun b e => fun e => e, by simp⟩, Kp.refl _ _⟩
        case round =>
          obtain ⟨i, q, d, D, hi, rfl, hDi, hDm, hfo, hkp⟩ := hrel
          have HFO := Lib.hid hfo
          have HDI := Lib.hid hDi
          have HDM := Lib.hid hDm
          have HKP := Lib.hid hkp
          have hzr := hkp.size
          have HWR := Lib.hid (show Below w.heap.size w wr from ⟨hkp.os.trans HB4.out.os, hkp.tape.trans HB4.out.tape, hkp.output.trans HB4.out.output, by omega, fun b hb => (hkp.block b (by omega) (by omega)).trans (HB4.out.block b hb)⟩)
          obtain ⟨c0, c1, cf, ck⟩ := hfo.cells
          have zk := bsz ck
          obtain ⟨a0, a1, af⟩ := cells2_cell ((hkp.block w.heap.size (by omega) (by omega)).trans HA4.out)
          have za := bsz (show w.heap.size < wr.heap.size by omega)
          clear hfo hkp hDi hDm
          by_cases hlt : i < us.length
          · have hlti : (i : Int) < us.length := by omega
            obtain ⟨b, o, hpe, hBb, x0, x1, hx0, hx1, hx⟩ := (HL.out.mono (SameOn.below HWR.out) (fun _ h => h) (fun x cs _ hx => TmAt.below HWR.out hx)).at2 hlt
            obtain ⟨y, hy⟩ : ∃ y, us[i] = y := ⟨_, rfl⟩
            have HTK := Lib.hid (show us.take (i + 1) = us.take i ++ [y] by rw [List.take_succ_eq_append_getElem hlt, hy])
            have hyw : y.wt ≤ Tm.wts us := by rw [← hy]; exact Tm.wts_le us hlt
            rw [hy] at hx
            obtain ⟨py, cy, rfl, rfl, -⟩ := hx.form
            have HX := Lib.hid hx
            have zb := bsz (World.block_lt_of_cell? _ _ hx0)
            subst hpe
            clear hx hy c0
            go_wp2_with fail
            go_wp2
            obtain ⟨W5, hW5⟩ : ∃ q', q' = wr.alloc (.cells #[.string y.n, .slice py y.us.length cy] 26) := ⟨_, rfl⟩
            have hs5 : W5.heap.size = wr.heap.size + 1 := by rw [hW5]; simp
            have hb5 : Below wr.heap.size wr W5 := by rw [hW5]; exact (Below.refl _ _).alloc (Nat.le_refl _) _
            have B5 := Lib.hid (show W5.heap[wr.heap.size]? = some (.cells #[.string y.n, .slice py y.us.length cy] 26 (0, 0)) by rw [hW5]; exact heap_alloc_new wr _)
            rw [← hW5]
            clear hW5
            have HF5 := Lib.hid (HFO.out.kp (X' := fun _ => False) (Kp.of_below hb5) (fun b e => .inl e))
            have HX5 := Lib.hid (TmAt.below hb5 HX.out)
            have HB5 := Lib.hid hb5
            have HW5 := Lib.hid (Below.step HWR.out hb5)
            have HKG := Lib.hid (show ∀ c, c < W5.heap.size → ∀ x w1, RvC (m + M) (repT (lookT L) y) W5.drew x w1 → w1.heap[c]? = W5.heap[c]? ∧ c < w1.heap.size from fun c hc x w1 ⟨_, _, _, _, hk⟩ => ⟨hk.block c hc, Nat.lt_of_lt_of_le hc hk.size⟩)
            have HVB := Lib.hid (show ∀ b, (Value.slice q i d).ownBlock = some b → W4.heap.size ≤ b ∧ b < wr.heap.size from fun b e => ⟨own_base HFO.out.row b e, own_lt' HFO.out.row e⟩)
            have HC4 := Lib.hid (show W5.cell? ⟨(w.heap.size + 2 + 1), 1, none⟩ = some (.slice q i d) from HF5.out.cells.2.1)
            clear hb5 c1 cf hx0 hx1
            refine wp_region_stages [some (.pointer (some ⟨(w.heap.size + 2 + 1), 1, none⟩)), some (.slice q i d), some (.agg #[.string y.n, .slice py y.us.length cy]), some (.map (some g)), none, none, none, some (.pointer (some ⟨(w.heap.size + 2 + 1), 1, none⟩)), none] [4, 5, 6, 8] (AppG 26 2 (w.heap.size + 2 + 1) 1 (RvC (m + M) (repT (lookT L) y) W5.drew) (.slice q i d) i W5 4 5 6) (by kernel_rfl) (by kernel_rfl) (by first | kernel_rfl | rfl) (by rfl) rfl ?_
            refine chain_st rfl rfl (by decide) rfl (by intro j u w' hS; go_simp; first | done | exact ⟨hS, rfl⟩ | exact hS | rfl) ?_
            go_simp
            refine chain_stb (c := 6) 2 rfl rfl (by decide) rfl rfl rfl (by first | kernel_rfl | rfl) ?_ ?_
            · intro j u w' hj hS
              have hc : w'.cell? ⟨(w.heap.size + 2 + 1), 1, none⟩ = _ := (World.cell?_of_block (AppG.cell2 (HKG.out (w.heap.size + 2 + 1) (by omega)) hj hS)).trans HC4.out
              go_simp
              first | done | exact ⟨hS, rfl⟩ | exact hS | rfl
            go_simp
            refine chain_st rfl rfl (by decide) rfl (by
              intro j u w' hS
              have hk := AppG.keep (c := wr.heap.size) (by omega) (HKG.out wr.heap.size (by omega)) (fun e => by have := HVB.out _ e; omega) (by omega) hS
              obtain ⟨e0, e1, ef⟩ := cells2_cell (hk.trans B5.out)
              have ze := bsz (World.block_lt_of_cell? _ _ e0)
              go_simp
              first | done | exact ⟨hS, rfl⟩ | exact hS | rfl) ?_
            go_simp
            refine chain_st rfl rfl (by decide) rfl (by intro j u w' hS; go_simp; first | done | exact ⟨hS, rfl⟩ | exact hS | rfl) ?_
            go_simp
            refine chain_first rfl rfl rfl (by decide) rfl ?_ ?_
            · intro w' hS
              obtain rfl : w' = W5.drew := hS
              go_simp
              refine (IH.out y _ _ W5.drew (TmAt.below ((Below.refl _ _).drew) HX5.out) (by show base ≤ W5.heap.size; omega) (HMO.out.below (HW5.out.trans ((Below.refl _ _).drew))) (by omega)).mono ?_
              rintro e w'' ⟨x, he, h1, h2, h3⟩
              exact ⟨_, he, by show RvC _ _ _ (upd _ 4 (.agg x.cs.toArray) 4) w''; rw [upd_same]; exact ⟨x, rfl, h1, h2, h3⟩⟩
            intro x
            go_simp
            refine chain_next 0 rfl rfl rfl rfl (by decide) rfl (by first | kernel_rfl | rfl) ?_ ?_
            · intro w' hS
              have hS : RvC (m + M) (repT (lookT L) y) W5.drew (upd _ 4 x 4) w' := hS
              rw [upd_same] at hS
              obtain ⟨y', rfl, h1, h2, h3⟩ := id hS
              go_simp
              exact ⟨w', y'.cs.toArray, hS, by rw [upd_same], rfl⟩
            intro x2
            go_simp
            refine chain_next 1 rfl rfl rfl rfl (by decide) rfl (by first | kernel_rfl | rfl) ?_ ?_
            · intro w' hS
              obtain ⟨w1', cs, hcp, hy, rfl⟩ := hS
              rw [upd_same] at hy
              subst hy
              obtain ⟨y', he, h1, h2, h3⟩ := id hcp
              simp only [Value.agg.injEq] at he
              subst he
              obtain ⟨vals, r1⟩ : ∃ vals, W5.ownsRow 0 26 2 (.slice q i d) i vals := ⟨_, by have := HF5.out.row; rw [HDI.out] at this; exact own_lower this (Nat.zero_le _)⟩
              refine each_app1 (.tmp 37) (.tmp 41) _ rfl 0 26 2 40 elemTmA (.slice q i d) i vals rfl w1' y'.cs.toArray rfl rfl (own_same r1 (fun b hb hl => h3.block b hl)) rfl (by intro u hu; simp [TC.cs] at hu; rcases hu with rfl | rfl <;> rfl) (by omega) (by unfold maxLen; omega) (Nat.zero_le _) ?_
              intro v' w3 happ hg3 hnr hsz
              exact ⟨w1', _, hcp, by rw [upd_same]; exact happ, hg3, by rw [upd_same]; exact hnr, hsz⟩
            intro x3
            go_simp
            refine chain_st rfl rfl (by decide) rfl (by intro j u w' hS; go_simp; first | done | exact ⟨hS, rfl⟩ | exact hS | rfl) ?_
            go_simp
            refine chain_next 2 rfl rfl rfl rfl (by decide) rfl (by first | kernel_rfl | rfl) ?_ ?_
            · intro w' hS
              obtain ⟨w1', cs, hcp, happ, hg3, hnr, hsz⟩ := hS
              rw [upd_same] at happ hnr
              obtain ⟨y', he, h1, h2, h3⟩ := id hcp
              have hz5 : W5.heap.size ≤ w1'.heap.size := h3.size
              have r1 := HF5.out.row
              rw [HDI.out] at r1
              have h1' := happ _ _ (own_same r1 (fun b hb hl => h3.block b hl)) (by omega)
              obtain ⟨q', c', rfl⟩ := own_form h1' (by omega)
              have hbt : w'.heap[(w.heap.size + 2 + 1)]? = some (.cells #[.string n, .slice q i d] 26 (0, 0)) := (hg3.block _ (by omega) (fun e => HFO.out.nk e.symm)).trans ((h3.block _ (by show (w.heap.size + 2 + 1) < W5.heap.size; omega)).trans HF5.out.box)
              have hcell : w'.cell? ⟨(w.heap.size + 2 + 1), 1, none⟩ = some (.slice q i d) := by rw [cell_of_row w' _ 1 _ _ (0, 0) hbt]; rfl
              have hfro : w'.frozen? ⟨(w.heap.size + 2 + 1), 1, none⟩ = false := frozen_of_row w' _ 1 _ _ hbt
              clear hbt
              go_simp
              refine ⟨w1', w', cs, hcp, ?_, hg3, ?_, hsz, ?_⟩
              · rw [upd_other _ _ (by decide), upd_same]; exact happ
              · rw [upd_other _ _ (by decide), upd_same]; exact hnr
              · rw [upd_other _ _ (by decide), upd_same]
            intro x4
            refine flowU_nil ?_
            intro wz hz
            obtain ⟨w1', w3', cs, hcp, happ, hg3, hnr, hsz, rfl⟩ := hz
            simp only [upd_other _ _ (show (6 : Nat) ≠ 8 by decide), upd_same] at happ hnr
            rw [upd_other _ _ (by decide), upd_same]
            obtain ⟨y', he, h1, h2, h3⟩ := hcp
            simp only [Value.agg.injEq] at he
            subst he
            have hk5 : Kp (fun _ => False) W5 w1' := ⟨h3.os, h3.tape, h3.output, h3.size, fun b hb _ => h3.block b hb⟩
            have hz1 := hk5.size
            have hz3 := hg3.size
            have r1 := HF5.out.row
            rw [HDI.out] at r1
            have h1' := happ _ _ (own_same r1 (fun b hb hl => hk5.block b hl (fun e => e))) (by omega)
            obtain ⟨q', c', rfl⟩ := own_form h1' (by omega)
            obtain ⟨hF6, -⟩ := HF5.out.app (X' := fun _ => False) (v' := .slice (some ⟨q', 0, none⟩) (i + 1) c') hk5 (fun b e => e.elim) (fun b e => e.elim) (TmAt.mono (SameOn.refl _ _) (fun b hb => ⟨hb.1, hb.2, fun e => e⟩) _ _ _ _ (Nat.le_refl _) h2) (by omega) (by rw [HDI.out]; exact happ) hg3 hnr (by rw [HDI.out]; omega)
            have HF6 := Lib.hid hF6
            have HK6 := Lib.hid (show Kp (fun b => b = (w.heap.size + 2 + 1)) W4 (w3'.setCell ⟨(w.heap.size + 2 + 1), 1, none⟩ (.slice (some ⟨q', 0, none⟩) (i + 1) c')) from
              (((HKP.out.be HB5.out).trans hk5 (fun b e => e.elim)).trans (Kp.of_gr hg3) (fun b e => .inr (HVB.out b e).1)).sc (.inl rfl) _)
            have HD6 := Lib.hid (show (D ++ [y']).map (·.t) = repTs (lookT L) (us.take (i + 1)) by rw [List.map_append, HDM.out, HTK.out, repTs_snoc, List.map_singleton, h1])
            clear happ hg3 hnr hsz r1 h1' h1 h2 h3 hk5 hF6
            go_wp2
            exact ⟨⟨i + 1, some ⟨q', 0, none⟩, c', D ++ [y'], by omega, by go_num, by rw [List.length_append, HDI.out]; rfl, HD6.out, HF6.out, HK6.out⟩, by simp [intOf]; omega⟩
          · obtain rfl : i = us.length := by omega
            have HR := Lib.hid ((HKP.out.block (w.heap.size + 1) (by omega) (by omega)).trans HR4.out)
            obtain ⟨r0, r1, rf⟩ := cells2_cell HR.out
            have zr := bsz (show w.heap.size + 1 < wr.heap.size by omega)
            go_wp2
            refine bodyPost_ret (v := .agg #[.string n, .slice q us.length d]) (by simp only [results, Tryz.results82]; go_simp) rfl ⟨⟨repT (lookT L) (.mk n us), q, d⟩, ?_, rfl, ?_, ?_⟩
            · rw [HRT.out]
              show _ = Ending.returned (.agg #[.string n, .slice q (repTs (lookT L) us).length d])
              rw [repTs_len]
            · rw [HRT.out]
              show TmAt _ _ _ _ [.string n, .slice q (repTs (lookT L) us).length d]
              rw [repTs_len]
              have hl := HFO.out.at_
              have hdm := HDM.out
              rw [List.take_length] at hdm
              rw [hdm] at hl
              rw [show m + 1 + M = (m + M) + 1 by omega]
              refine ⟨_, rfl, HN.out, hl.mono (((SameOn.refl _ _).sc ?_ _).sc ?_ _) (fun b hb => ⟨by omega, by simp; omega⟩) (fun y cs _ hy => TmAt.mono (((SameOn.refl _ _).sc ?_ _).sc ?_ _) (fun b hb => ⟨by omega, by simp; omega⟩) _ _ _ _ (Nat.le_refl _) hy)⟩
              all_goals (intro b hb e; simp at e; omega)
            · have hk := HWR.out
              exact bel
end Go.Proofs.YtmbkjdkjemlfkaaGreatDoor
