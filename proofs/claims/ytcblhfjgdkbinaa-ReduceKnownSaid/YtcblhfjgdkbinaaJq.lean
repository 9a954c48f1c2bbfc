/- ReduceKeeps' walk: renumbering; the rest. Conditions: the memory. -/
import Derived.Test.YtcblhfjgdkbinaaJo
namespace Go.Proofs.Ytcblhfjgdkbinaa.Re
open Go.RowKit Go.Proofs.Ytcblhfjgdkbinaa.Mem Go.Proofs.Ytcblhfjgdkbinaa.Sl Go.Shelf Go.Sort Go.Proofs.Ytcblhfjgdkbinaa.Sr
open Go.Proofs.Ytcblhfjgdkbinaa.FnL (enc_at below_then)
set_option linter.unusedVariables false

/-- Under way: the first i have their new ids. -/
structure RW (l : List Rc) (i : Nat) (d : Array Rc) : Prop where
  sz : d.size = l.length
  lo : ∀ j, j < i → j < l.length → d[j]! = rn j l[j]!
  hi : ∀ j, i ≤ j → j < l.length → d[j]! = l[j]!
theorem RW.start (l : List Rc) : RW l 0 l.toArray := ⟨by simp, fun j h => absurd h (Nat.not_lt_zero _), fun j _ _ => arr_get l j⟩
theorem RW.step {l : List Rc} {i : Nat} {d : Array Rc} (h : RW l i d) (hi : i < l.length) : RW l (i + 1) (d.setIfInBounds i (rn i d[i]!)) := by
  refine ⟨by simp [h.sz], fun j hj hl => ?_, fun j hj hl => ?_⟩
  · by_cases e : j = i
    · subst e
      rw [setMany_put.getElem!_set_same' d j _ (by rw [h.sz]; exact hl) rfl, h.hi j (Nat.le_refl _) hl]
    · rw [setMany_put.getElem!_set_other' d i _ j e]
      exact h.lo j (by omega) hl
  · rw [setMany_put.getElem!_set_other' d i _ j (by omega)]
    exact h.hi j (by omega) hl
theorem RW.done {l : List Rc} {d : Array Rc} (h : RW l l.length d) : d = (renum l).toArray := by
  apply Array.ext
  · rw [h.sz]; simp [renum_len]
  · intro j h1 h2
    have hj : j < l.length := by rw [← h.sz]; exact h1
    have := h.lo j hj hj
    rw [getElem!_pos d j h1] at this
    rw [this]
    have e := renum_at hj
    rw [getElem!_pos (renum l) j (by rw [renum_len]; exact hj)] at e
    simpa using e.symm
set_option maxRecDepth 100000 in
set_option maxHeartbeats 4000000 in
theorem keeps_any {w : World} (A0 : Option Addr) (n0 c0 : Nat) (l : List Rc) (hn0 : n0 = l.length) (hr : RdV w A0 (RCs l)) (gl part more : Int) (wp : -9223372036854775808 ≤ part ∧ part ≤ 9223372036854775807) (wm : -9223372036854775808 ≤ more ∧ more ≤ 9223372036854775807) :
    Calls Try.prog 3 #[.slice A0 n0 c0, .int .i64 gl, .int .i64 part, .int .i64 more] w fun e w' => e = .returned (.bool true) ∧ Below w.heap.size w w' := by
  by_cases hbig : 100 < n0
  · clear hr hn0 wp wm
    go_enter Try.func3, Try.ntmps3
    go_wp2
    go_ret
    exact ⟨rfl, Below.refl _ _⟩
  subst hn0
  have HBO := Lib.hid (both_any A0 c0 l hr (by omega))
  obtain ⟨N, hN⟩ : ∃ N, N = l.length := ⟨_, rfl⟩
  have HP1 := Lib.hid (fun W => (pick_any part wp.1 wp.2 101 (by decide) (by decide) W).mono fun e w' h => (⟨h.1, h.2.symm⟩ : e = .returned (.int .i64 (pickI part 101)) ∧ W = w'))
  have hp := pickI_bd part (n := 101) (by decide)
  generalize pickI part 101 = p at *
  have HP2 := Lib.hid (fun W => (pick_any more wm.1 wm.2 (101 - p) (by omega) (by omega) W).mono fun e w' h => (⟨h.1, h.2.symm⟩ : e = .returned (.int .i64 (pickI more (101 - p))) ∧ W = w'))
  have hq := pickI_bd more (n := 101 - p) (by omega)
  generalize pickI more (101 - p) = q at *
  have HKP := Lib.hid (show Keep l gl p (p + q) _ _ N from hN ▸ keep_of l gl p (p + q) hp.1 (by omega) (by omega))
  have hop : okPart p := ⟨hp.1, by omega⟩
  have hoq : okPart (p + q) := ⟨by omega, by omega⟩
  obtain ⟨xs, hxs⟩ : ∃ xs, xs = idsR (chosen (renum l) gl p) := ⟨_, rfl⟩
  obtain ⟨ys, hys⟩ : ∃ ys, ys = idsR (chosen (renum l) gl (p + q)) := ⟨_, rfl⟩
  rw [← hxs, ← hys] at HKP
  have HX := Lib.hid hxs
  have HY := Lib.hid hys
  have HN := Lib.hid hN
  have HO1 := Lib.hid hop
  have HO2 := Lib.hid hoq
  rw [← hN] at HBO hbig ⊢
  clear hN hxs hys hop hoq hr wp wm
  have HLE1 := HKP.out.le1
  have HLE2 := HKP.out.le2
  obtain ⟨X, hX⟩ : ∃ X, X = xs.length := ⟨_, rfl⟩
  obtain ⟨Y, hY⟩ : ∃ Y, Y = ys.length := ⟨_, rfl⟩
  rw [← hX] at HLE1
  rw [← hY] at HLE1 HLE2
  have HXL := Lib.hid hX
  have HYL := Lib.hid hY
  have HXR := Lib.hid (show ∀ W e W', ChoR W xs 0 e W' → ∃ A c, e = .returned (.tuple #[.slice A X c, .int .i64 0]) ∧ App.Own W' W.heap.size 2 A X c (LQ xs) ∧ Below W.heap.size W W' from fun W e W' h => by rw [hX]; exact h)
  have HYR := Lib.hid (show ∀ W e W', ChoR W ys 0 e W' → ∃ A c, e = .returned (.tuple #[.slice A Y c, .int .i64 0]) ∧ App.Own W' W.heap.size 2 A Y c (LQ ys) ∧ Below W.heap.size W W' from fun W e W' h => by rw [hY]; exact h)
  clear hX hY
  have k1 : ¬ (Y : Int) < (X : Int) := by omega
  have k2 : ¬ (N : Int) < (Y : Int) := by omega
  have k3 : ¬ Y < X := by omega
  have k4 : ¬ N < Y := by omega
  have hN100 : N ≤ 100 := by omega
  have hNz : ¬ (100 : Int) < (N : Int) := by omega
  go_enter Try.func3, Try.ntmps3
  go_wp2_with fail
  refine HBO.out.mono ?_
  rintro e w1 ⟨A, c, B, d, rfl, hA, hB, hb1⟩
  rw [← HN.out] at hA hB ⊢
  have HB1 := Lib.hid hb1
  have HA1 := Lib.hid hA
  clear hb1 hA hB HBO
  have HAG := Lib.hid (show ∀ g, A = some ⟨g, 0, none⟩ → w.heap.size ≤ g ∧ g < w1.heap.size from fun g e => HA1.out.lt e)
  have HAC := Lib.hid (show ∀ g, A = some ⟨g, 0, none⟩ → HK w1 g l.toArray from fun g e => by
    obtain ⟨_, ⟨h1, _⟩ | ⟨g', h1, _, _, _, h2⟩⟩ := HA1.out
    · rw [h1] at e; cases e
    · rw [h1] at e
      injection e with e
      injection e with e
      subst e
      exact HK.of_row h2)
  have HAF := Lib.hid (show (A = none → l = []) ∧ ((∃ g, A = some ⟨g, 0, none⟩) ∨ A = none) from by
    obtain ⟨_, ⟨h1, _, h2, _⟩ | ⟨g', h1, _⟩⟩ := HA1.out
    · exact ⟨fun _ => List.eq_nil_of_length_eq_zero (by rw [← HN.out]; exact h2), .inr h1⟩
    · exact ⟨fun e => (by rw [h1] at e; cases e), .inl ⟨g', h1⟩⟩)
  go_wp2_with fail
  go_loopw [11, 12] (fun vi _ wr => ∃ (i : Nat) (dk : Array Rc), vi = .int .i64 i ∧ i ≤ N ∧ Below w.heap.size w wr ∧ w1.heap.size ≤ wr.heap.size ∧ (∀ g, A = some ⟨g, 0, none⟩ → HK wr g dk) ∧ Hid (RW l i dk)) (fun vi _ _ => N - (intOf vi).toNat)
  case atStart => exact ⟨0, l.toArray, rfl, Nat.zero_le _, HB1.out, Nat.le_refl _, HAC.out, RW.start l⟩
  case round =>
    obtain ⟨i, dk, rfl, hi, hB, hsz, hK, HR⟩ := hrel
    have HBR := Lib.hid hB
    have HSR := Lib.hid hsz
    have HKR := Lib.hid hK
    clear hB hsz hK
    by_cases hlt : i < N
    · have hz : (i : Int) < (N : Int) := by omega
      obtain ⟨g, rfl⟩ : ∃ g, A = some ⟨g, 0, none⟩ := by
        rcases HAF.out.2 with h | h
        · exact h
        · have h2 := HAF.out.1 h
          have h3 := HN.out
          rw [h2] at h3
          simp at h3
          omega
      have HKG := Lib.hid (HKR.out g rfl)
      have hds : i < dk.size := by rw [HR.out.sz, ← HN.out]; exact hlt
      obtain ⟨q0, q1, q2, q3, q4⟩ := HKG.out.cells5 hds
      have HST := Lib.hid (HR.out.step (by rw [← HN.out]; exact hlt))
      obtain ⟨r, hrr⟩ : ∃ r, r = dk[i]! := ⟨_, rfl⟩
      rw [← hrr] at q0 q1 q2 q3 q4 HST
      obtain ⟨W, hW⟩ : ∃ W, W = wr.alloc (.cells #[.int .i64 ((i : Int) + 1), .int .i64 r.lbd, .int .i64 r.size, .int .i64 r.used, .bool r.locked] 28) := ⟨_, rfl⟩
      have HBW := Lib.hid (show Below wr.heap.size wr W by rw [hW]; exact (Below.refl _ _).alloc (Nat.le_refl _) _)
      have HWE := Lib.hid hW
      have HKW := Lib.hid (HKG.out.below HBW.out)
      obtain ⟨-, h3, h4⟩ := HKW.out.put Try.prog hds (rn i r)
      have HP3 := Lib.hid h3
      have HP4 := Lib.hid (show Below w.heap.size w (W.setCells g (i * 5) (encR (rn i r))) from Mem.Below.then_mod (below_then HBR.out HBW.out HBR.out.size) h4 (fun j hj e => by have := (HAG.out g rfl).1; omega) (Nat.le_refl _))
      have HP5 := Lib.hid (Nat.le_trans HBW.out.size h4.size)
      obtain ⟨t0, t1, t2, t3, t4⟩ := HKW.out.cells5 hds
      have HFZ := Lib.hid (fun j (hj : j < 5) => (HKW.out.1 (i * 5 + j) (by rw [size_flatK]; omega)).2)
      have f0 : W.frozen? ⟨g, i * 5, none⟩ = false := by have := HFZ.out 0 (by decide); rwa [Nat.zero_add, Nat.add_zero] at this
      have f1 : W.frozen? ⟨g, i * 5 + 1, none⟩ = false := by have := HFZ.out 1 (by decide); rwa [Nat.zero_add] at this
      have f2 : W.frozen? ⟨g, i * 5 + 2, none⟩ = false := by have := HFZ.out 2 (by decide); rwa [Nat.zero_add] at this
      have f3 : W.frozen? ⟨g, i * 5 + 3, none⟩ = false := by have := HFZ.out 3 (by decide); rwa [Nat.zero_add] at this
      have f4 : W.frozen? ⟨g, i * 5 + 4, none⟩ = false := by have := HFZ.out 4 (by decide); rwa [Nat.zero_add] at this
      have hgw : g ≠ wr.heap.size := by have := HKG.out.2; omega
      rw [← hrr] at t0 t1 t2 t3 t4
      have HBX := Lib.hid (show Blk W wr.heap.size 28 #[.int .i64 ((i : Int) + 1), .int .i64 r.lbd, .int .i64 r.size, .int .i64 r.used, .bool r.locked] by rw [hW]; exact Blk.new _ _ _)
      clear h3 h4 hrr
      go_upto_region 9 with (fail)
      rw [← hW]
      clear hW q0 q1 q2 q3 q4
      have u0 : W.cell? ⟨wr.heap.size, 0, none⟩ = some (.int .i64 ((i : Int) + 1)) := HBX.out.cell 0
      have u1 : W.cell? ⟨wr.heap.size, 1, none⟩ = some (.int .i64 r.lbd) := HBX.out.cell 1
      have u2 : W.cell? ⟨wr.heap.size, 2, none⟩ = some (.int .i64 r.size) := HBX.out.cell 2
      have u3 : W.cell? ⟨wr.heap.size, 3, none⟩ = some (.int .i64 r.used) := HBX.out.cell 3
      have u4 : W.cell? ⟨wr.heap.size, 4, none⟩ = some (.bool r.locked) := HBX.out.cell 4
      go_wp2
      go_roundw
      case rel => exact ⟨i + 1, dk.setIfInBounds i (rn i r), by go_num, hlt, HP4.out, Nat.le_trans HSR.out HP5.out, fun g' e => by
        have e2 : g = g' := by injection e with e; injection e
        rw [← e2]
        exact HP3.out, HST.out⟩
      case measure => simp [intOf]; omega
    · obtain rfl : i = N := by omega
      have HDN := Lib.hid (show dk = (renum l).toArray from by have := HR.out; rw [HN.out] at this; exact this.done)
      have HRD := Lib.hid (show RdV wr A (RCs (renum l)) from by
        rcases HAF.out.2 with ⟨g, e⟩ | e
        · subst e
          have := (HKR.out g rfl).rd
          rw [HDN.out] at this
          exact this
        · rw [HAF.out.1 e]; exact RdV.nil _ _)
      have HNL := Lib.hid (show A = none → renum l = [] from fun e => by rw [HAF.out.1 e]; rfl)
      have HCH := Lib.hid (show ∀ W, Below wr.heap.size wr W → Calls Try.prog 8 #[.slice A i c, .int .i64 gl, .int .i64 p] W (ChoR W xs 0) ∧ Calls Try.prog 8 #[.slice A i c, .int .i64 gl, .int .i64 (p + q)] W (ChoR W ys 0) from fun W hb => by
        have h1 := choose_ok A c (renum l) gl p (HRD.out.below hb) HNL.out (by rw [renum_len, ← HN.out]; omega) HO1.out
        have h2 := choose_ok A c (renum l) gl (p + q) (HRD.out.below hb) HNL.out (by rw [renum_len, ← HN.out]; omega) HO2.out
        rw [renum_len, ← HN.out, ← HX.out] at h1
        rw [renum_len, ← HN.out, ← HY.out] at h2
        exact ⟨h1, h2⟩)
      have HC1 := Lib.hid (HCH.out wr (Below.refl _ _)).1
      go_wp2_with fail
      refine (HP1.out _).mono ?_
      rintro e w2 ⟨rfl, rfl⟩
      go_wp2_with fail
      refine HC1.out.mono ?_
      intro e w3 hcr
      obtain ⟨AX, cx, rfl, hOX, hBX⟩ := HXR.out _ _ _ hcr
      have HOX := Lib.hid hOX
      have HBX := Lib.hid hBX
      have HC2 := Lib.hid (HCH.out w3 hBX).2
      clear hcr hOX hBX HC1 HCH HXR
      go_wp2_with fail
      refine (HP2.out _).mono ?_
      rintro e w4 ⟨rfl, rfl⟩
      go_wp2_with fail
      refine HC2.out.mono ?_
      intro e w5 hcr
      obtain ⟨AY, cy, rfl, hOY, hBY⟩ := HYR.out _ _ _ hcr
      have HRY := Lib.hid hOY.rd
      have HB5 := Lib.hid (below_then HBX.out hBY HBX.out.size)
      have HRX := Lib.hid (HOX.out.rd.below hBY)
      have HBW5 := Lib.hid (below_then HBR.out HB5.out HBR.out.size)
      have HKG := Lib.hid (show ∀ g, A = some ⟨g, 0, none⟩ → HK w5 g (renum l).toArray from fun g e => by have := (HKR.out g e).below HB5.out; rwa [HDN.out] at this)
      clear hcr hOY hBY HC2 HYR HOX HBX HR
      go_wp2
      go_loopw [18, 19, 20] (fun vi _ _ wr => ∃ j : Nat, vi = .int .i64 j ∧ j ≤ X ∧ Below w5.heap.size w5 wr) (fun vi _ _ _ => X - (intOf vi).toNat)
      case atStart => exact ⟨0, rfl, Nat.zero_le _, Below.refl _ _⟩
      case round =>
        obtain ⟨t, rfl, ht, hB⟩ := hrel
        have HBT := Lib.hid hB
        clear hB
        by_cases hlt2 : t < X
        · have hz : (t : Int) < (X : Int) := by omega
          have hz2 : (t : Int) < (Y : Int) := by omega
          have hz3 : t < Y := by omega
          obtain ⟨g, rfl⟩ : ∃ g, A = some ⟨g, 0, none⟩ := by
            rcases HAF.out.2 with h | h
            · exact h
            · have h2 := HAF.out.1 h
              have h3 := HN.out
              rw [h2] at h3
              simp at h3
              omega
          have hx1 : t < xs.length := by rw [← HXL.out]; exact hlt2
          have hy1 : t < ys.length := by rw [← HYL.out]; omega
          obtain ⟨j, hj1, hj2, hj3, hj4, hj5⟩ := HKP.out.at_ t hx1
          have hj6 := (HKP.out.pre t hx1 hy1).symm.trans hj1
          obtain ⟨b1, o1, hax, -, -⟩ := RdV.at_ (HRX.out.below HBT.out) (LQ_at hx1)
          obtain ⟨b2, o2, hay, -, -⟩ := RdV.at_ (HRY.out.below HBT.out) (LQ_at hy1)
          have HNE := Lib.hid (show ∀ k (h : k < xs.length), k < t → xs[k] ≠ (j : Int) + 1 from fun k hk hkt => by rw [← hj1]; exact HKP.out.ne k t hk hx1 hkt)
          subst hax hay
          have HXC := Lib.hid (show ∀ W (hb : Below w5.heap.size w5 W) k (h : k < xs.length), W.cell? ⟨b1, o1 + k, none⟩ = some (.int .i64 xs[k]) from fun W hb k h => by
            obtain ⟨b', o', e, _, hc⟩ := RdV.at_ (HRX.out.below hb) (LQ_at h)
            injection e with e
            injection e with e1 e2
            rw [e1, e2]; exact hc)
          have HYC := Lib.hid (show ∀ W (hb : Below w5.heap.size w5 W), W.cell? ⟨b2, o2 + t, none⟩ = some (.int .i64 ((j : Int) + 1)) from fun W hb => by
            obtain ⟨b', o', e, _, hc⟩ := RdV.at_ (HRY.out.below hb) (LQ_at hy1)
            injection e with e
            injection e with e1 e2
            rw [e1, e2, ← hj6]; exact hc)
          have HXT := Lib.hid (show ∀ W (hb : Below w5.heap.size w5 W), W.cell? ⟨b1, o1 + t, none⟩ = some (.int .i64 ((j : Int) + 1)) from fun W hb => by rw [← hj1]; exact HXC.out W hb t hx1)
          have HQC := Lib.hid (show ∀ W (hb : Below w5.heap.size w5 W), W.cell? ⟨g, j * 5, none⟩ = some (.int .i64 (renum l)[j]!.id) ∧ W.cell? ⟨g, j * 5 + 1, none⟩ = some (.int .i64 (renum l)[j]!.lbd) ∧ W.cell? ⟨g, j * 5 + 2, none⟩ = some (.int .i64 (renum l)[j]!.size) ∧ W.cell? ⟨g, j * 5 + 3, none⟩ = some (.int .i64 (renum l)[j]!.used) ∧ W.cell? ⟨g, j * 5 + 4, none⟩ = some (.bool false) from fun W hb => by
            obtain ⟨q0, q1, q2, q3, q4⟩ := ((HKG.out g rfl).below hb).cells5 (i := j) (by simp [renum_len]; rw [← HN.out]; exact hj2)
            rw [arr_get] at q0 q1 q2 q3 q4
            rw [hj3] at q4
            exact ⟨q0, q1, q2, q3, q4⟩)
          have hc1 := HXT.out wr HBT.out
          have hc2 := HYC.out wr HBT.out
          obtain ⟨r, hrr⟩ : ∃ r, r = (renum l)[j]! := ⟨_, rfl⟩
          rw [← hrr] at HQC hj3 hj4 hj5
          have HTI := Lib.hid (show ∀ W, Calls Try.prog 9 #[.agg #[.int .i64 r.id, .int .i64 r.lbd, .int .i64 r.size, .int .i64 r.used, .bool false], .int .i64 gl] W fun e w' => e = .returned (.int .i64 (tierF r.lbd gl)) ∧ Below W.heap.size W w' from fun W => by
            have := tier_any r gl W
            rw [show agR r = .agg #[.int .i64 r.id, .int .i64 r.lbd, .int .i64 r.size, .int .i64 r.used, .bool false] by unfold agR; rw [hj3]] at this
            exact this)
          obtain ⟨T, hT⟩ : ∃ T, T = tierF r.lbd gl := ⟨_, rfl⟩
          rw [← hT] at HTI hj4
          have hT1 : (T == 1) = false := by rw [beq_eq_false_iff_ne]; exact hj4
          have hu : ¬ 2 ≤ r.used := by omega
          have m1 : ¬ (j : Int) + 1 < 1 := by omega
          have m2 : ¬ (i : Int) < (j : Int) + 1 := by omega
          have m5 : decide ((j : Int) + 1 < 1) = false := decide_eq_false (by omega)
          have m6 : decide ((i : Int) < (j : Int) + 1) = false := decide_eq_false (by omega)
          have m3 : (j : Int) < (i : Int) := by omega
          have m4 : IntKind.i64.wrap (j : Int) = (j : Int) := by rw [IntKind.wrap_i64]; omega
          clear hrr hT hj1 hj3 hj4 hj5 hj6 hx1 hy1
          go_wp2_with fail
          go_big_quiet (fail)
          have HBD := Lib.hid (belowN HBT.out nq)
          generalize wr.drewN nq = wd at *
          clear hc1 hc2
          have hc1 := HXT.out wd HBD.out
          obtain ⟨q0, q1, q2, q3, q4⟩ := HQC.out wd HBD.out
          go_wp2_with fail
          refine (HTI.out _).mono ?_
          rintro e w6 ⟨rfl, hb6⟩
          have HB6 := Lib.hid (show Below w5.heap.size w5 w6 from below_then HBD.out (below_then ((Below.refl wd.heap.size wd).alloc (Nat.le_refl _) _) hb6 (by simp)) HBD.out.size)
          have hu3 : w6.cell? ⟨wd.heap.size, 3, none⟩ = some (.int .i64 r.used) := ((Blk.new wd 28 #[.int .i64 r.id, .int .i64 r.lbd, .int .i64 r.size, .int .i64 r.used, .bool false]).below hb6).cell 3
          clear hb6 q0 q1 q2 q3 q4 hc1 HBD HTI
          go_wp2_with fail
          go_loopw [20] (fun vk wr2 => ∃ k : Nat, vk = .int .i64 k ∧ k ≤ t ∧ Below w5.heap.size w5 wr2) (fun vk _ => t - (intOf vk).toNat)
          case atStart => exact ⟨0, rfl, Nat.zero_le _, HB6.out⟩
          case round =>
            clear hu3 HB6
            obtain ⟨k, rfl, hk, hB⟩ := hrel
            have HBK := Lib.hid hB
            clear hB
            by_cases hlt3 : k < t
            · have kz : (k : Int) < (t : Int) := by omega
              have kz2 : (k : Int) < (X : Int) := by omega
              have kz3 : k < X := by omega
              have hkx : k < xs.length := by rw [← HXL.out]; omega
              have hc1 := HXT.out wr HBK.out
              have hc3 := HXC.out wr HBK.out k hkx
              have hne := HNE.out k hkx hlt3
              obtain ⟨v, hv⟩ : ∃ v, v = xs[k] := ⟨_, rfl⟩
              rw [← hv] at hc3 hne
              have hne2 : (v == (j : Int) + 1) = false := by rw [beq_eq_false_iff_ne]; exact hne
              clear hv hkx hne
              go_wp2_with fail
              go_big_quiet (fail)
              go_wp2
              go_roundw
              case rel => exact ⟨k + 1, by go_num, hlt3, belowN HBK.out _⟩
              case measure => simp [intOf]; omega
            · obtain rfl : k = t := by omega
              go_wp2
              go_roundw
              case rel => exact ⟨k + 1, by go_num, hlt2, HBK.out⟩
              case measure => simp [intOf]; omega
        · obtain rfl : t = X := by omega
          have HW := Lib.hid (works_any wr)
          have HBF := Lib.hid (below_then HBW5.out HBT.out HBW5.out.size)
          go_wp2_with fail
          refine HW.out.mono ?_
          rintro e w6 ⟨rfl, hb6⟩
          have HB6 := Lib.hid (below_then HBF.out hb6 HBF.out.size)
          clear hb6
          go_wp2
          go_ret
          exact ⟨rfl, HB6.out⟩
end Go.Proofs.Ytcblhfjgdkbinaa.Re
