/- ReduceChooses' walk. Conditions: the memory. -/
import Derived.Test.YtcblhfjgdkbinaaJt
import Derived.Laws.StructEq
namespace Go.Proofs.Ytcblhfjgdkbinaa.Re
open Go.RowKit Go.Proofs.Ytcblhfjgdkbinaa.Mem Go.Proofs.Ytcblhfjgdkbinaa.Sl Go.Shelf Go.Sort Go.Proofs.Ytcblhfjgdkbinaa.Sr
open Go.Proofs.Ytcblhfjgdkbinaa.FnL (enc_at below_then)
open Go.Proofs.Ytcblhfjgdkbinaa.Lt (Later wp_region_later)
set_option linter.unusedVariables false

theorem later_tier {wr : World} (x : Rc) (g : Int) (p : Later wr) : Calls Try.prog 9 #[agR x, .int .i64 g] p.w' fun e w'' => e = .returned (.int .i64 (tierF x.lbd g)) ∧ ∃ q : Later wr, w'' = q.w' :=
  Later.meet (fun W hb => tier_any x g W) p
theorem later_rtier {wr : World} (x : Rc) (g : Int) (p : Later wr) : Calls Try.prog 21 #[agR x, .int .i64 g] p.w' fun e w'' => e = .returned (.int .i64 (tierF x.lbd g)) ∧ ∃ q : Later wr, w'' = q.w' :=
  Later.meet (fun W hb => rtier_any x g W) p
theorem neqR (x : Rc) (w : World) : (binOp .neq 28 (agR x) (agR x)).run Try.prog w = .ok (.bool false) w := by
  have u2 := Try.underlying2
  have a2 := Try.isAgg2
  have z2 := Try.sizeOf2
  have u3 := Try.underlying3
  have a3 := Try.isAgg3
  have z3 := Try.sizeOf3
  have u4 := Try.underlying4
  have a4 := Try.isAgg4
  have z4 := Try.sizeOf4
  have hS : Try.prog.underlying 28 = some (.struct (Try.prog.fieldsOf 28)) := by kernel_rfl
  have hp : Try.prog.stoodInHeld 28 = false := by kernel_rfl
  rw [run_neq_struct, show (10000 : Nat) = 9999 + 1 from rfl, run_equalIn_agg w 9999 _ _ _ hS hp]
  simp only [Program.fieldsOf, Try.underlying28]
  go_simp
theorem guardR (x y : Operand) (r : Rc) (w : World) : (eqGuard .neq 28 x y (agR r) (agR r)).run Try.prog w = .ok () w := run_eqGuard_agg w .neq _ x y _ _ (by kernel_rfl)
/-- What Choose answers, of both. -/
def choIds (l : List Rc) (gl part : Int) : List Int := if 0 ≤ part ∧ part ≤ 100 then idsR (chosen l gl part) else []
def choErr (part : Int) : Int := if 0 ≤ part ∧ part ≤ 100 then 0 else 2
theorem choose_any {w : World} (A : Option Addr) (c : Nat) (l : List Rc) (gl part : Int) (hr : RdV w A (RCs l)) (hnil : A = none → l = []) (hl : l.length ≤ 1000) :
    Calls Try.prog 8 #[.slice A l.length c, .int .i64 gl, .int .i64 part] w (ChoR w (choIds l gl part) (choErr part)) := by
  unfold choIds choErr
  by_cases h : 0 ≤ part ∧ part ≤ 100
  · rw [if_pos h, if_pos h]; exact choose_ok A c l gl part hr hnil hl h
  · rw [if_neg h, if_neg h]; exact choose_bad A l.length c gl part h
theorem rchoose_any {w : World} (A : Option Addr) (c : Nat) (l : List Rc) (gl part : Int) (hr : RdV w A (RCs l)) (hl : l.length ≤ 1000) :
    Calls Try.prog 22 #[.slice A l.length c, .int .i64 gl, .int .i64 part] w (ChoR w (choIds l gl part) (choErr part)) := by
  unfold choIds choErr
  by_cases h : 0 ≤ part ∧ part ≤ 100
  · rw [if_pos h, if_pos h]; exact rchoose_ok A c l gl part hr hl h
  · rw [if_neg h, if_neg h]; exact rchoose_bad A l.length c gl part h
theorem choErr_b (part : Int) : choErr part = 0 ∨ choErr part = 2 := by unfold choErr; split <;> simp
set_option maxRecDepth 100000 in
set_option maxHeartbeats 4000000 in
theorem chooses_any {w : World} (A0 : Option Addr) (c0 : Nat) (l : List Rc) (hr : RdV w A0 (RCs l)) (hl : l.length ≤ 200) (gl part : Int) :
    Calls Try.prog 13 #[.slice A0 l.length c0, .int .i64 gl, .int .i64 part] w fun e w' => e = .returned (.bool true) ∧ Below w.heap.size w w' := by
  have HBO := Lib.hid (fun W (hb : Below w.heap.size w W) => both_any (w := W) A0 c0 l (hr.below hb) (by omega))
  obtain ⟨N, hN⟩ : ∃ N, N = l.length := ⟨_, rfl⟩
  have HN := Lib.hid hN
  obtain ⟨ids, hids⟩ : ∃ ids, ids = choIds l gl part := ⟨_, rfl⟩
  obtain ⟨er, her⟩ : ∃ er, er = choErr part := ⟨_, rfl⟩
  have HCP := Lib.hid (show ∀ W A c, RdV W A (RCs l) → (A = none → l = []) → Calls Try.prog 8 #[.slice A N c, .int .i64 gl, .int .i64 part] W (ChoR W ids er) from fun W A c h1 h2 => by
    rw [hN, hids, her]; exact choose_any A c l gl part h1 h2 (by omega))
  have HCR := Lib.hid (show ∀ W A c, RdV W A (RCs l) → Calls Try.prog 22 #[.slice A N c, .int .i64 gl, .int .i64 part] W (ChoR W ids er) from fun W A c h1 => by
    rw [hN, hids, her]; exact rchoose_any A c l gl part h1 (by omega))
  have HW := Lib.hid (fun W => works_any W)
  have HER := Lib.hid (show er = 0 ∨ er = 2 from her ▸ choErr_b part)
  have HMB := Lib.hid (show ∀ M, M = ids.length → M ≤ 4000000 from fun M h => by
    have : ids.length ≤ l.length := by
      rw [hids]
      unfold choIds
      split
      · unfold idsR chosen
        rw [List.length_map, List.length_take, srt_len]
        exact Nat.le_trans (Nat.min_le_right _ _) (List.length_filter_le _ _)
      · exact Nat.zero_le _
    omega)
  rw [← hN] at HBO hl ⊢
  clear hN hids her hr
  have mixed : Try.prog.follows .mixedOrders = true := pk.mixed
  have hNz : ¬ (200 : Int) < (N : Int) := by omega
  have hNn : ¬ 200 < N := by omega
  have HB0 := Lib.hid (HBO.out w (Below.refl _ _))
  go_enter Try.func13, Try.ntmps13
  go_wp2_with fail
  refine HB0.out.mono ?_
  rintro e w1 ⟨A, c, B, d, rfl, hA, hB, hb1⟩
  rw [← HN.out] at hA hB ⊢
  have HB1 := Lib.hid hb1
  have HA1 := Lib.hid hA.rd
  have HR1 := Lib.hid hB.rd
  have HAN := Lib.hid (show A = none → l = [] from fun e => by
    obtain ⟨_, ⟨_, _, h, _⟩ | ⟨g, h, _⟩⟩ := hA
    · exact List.eq_nil_of_length_eq_zero (by rw [← HN.out]; exact h)
    · rw [e] at h; cases h)
  clear hb1 hA hB HB0
  go_wp2_with fail
  go_loopw [9] (fun vi wr => ∃ i : Nat, vi = .int .i64 i ∧ i ≤ N ∧ Below w1.heap.size w1 wr) (fun vi _ => N - (intOf vi).toNat)
  case atStart => exact ⟨0, rfl, Nat.zero_le _, Below.refl _ _⟩
  case round =>
    obtain ⟨i, rfl, hi, hB⟩ := hrel
    have HBR := Lib.hid hB
    clear hB
    by_cases hlt : i < N
    · have hz : (i : Int) < (N : Int) := by omega
      have hil : i < l.length := by rw [← HN.out]; exact hlt
      obtain ⟨b1, o1, rfl⟩ := rd_some HA1.out (by omega)
      obtain ⟨b2, o2, rfl⟩ := rd_some HR1.out (by omega)
      have H1 := fun (p : Later wr) => rd5 (HA1.out.below (below_then HBR.out p.h HBR.out.size)) hil
      have H2 := fun (p : Later wr) => rd5 (HR1.out.below (below_then HBR.out p.h HBR.out.size)) hil
      obtain ⟨x, hx⟩ : ∃ x, x = l[i]! := ⟨_, rfl⟩
      rw [← hx] at H1 H2
      have L0 := fun p => (H1 p).1
      have L1 := fun p => (H1 p).2.1
      have L2 := fun p => (H1 p).2.2.1
      have L3 := fun p => (H1 p).2.2.2.1
      have L4 := fun p => (H1 p).2.2.2.2
      have R0 := fun p => (H2 p).1
      have R1 := fun p => (H2 p).2.1
      have R2 := fun p => (H2 p).2.2.1
      have R3 := fun p => (H2 p).2.2.2.1
      have R4 := fun p => (H2 p).2.2.2.2
      have M1 := Lib.hid (fun (p : Later wr) => later_tier x gl p)
      have M2 := Lib.hid (fun (p : Later wr) => later_rtier x gl p)
      generalize tierF x.lbd gl = T at M1 M2
      clear H1 H2 hx hil
      go_wp2_with fail
      refine wp_region_later mixed (by kernel_rfl) ?_
      repeat (go_big_quiet_step ((first | (go_at_call 9; exact M1.out _) | (go_at_call 21; exact M2.out _))))
      refine wpQuiet_nil ?_
      intro wq hw'
      obtain ⟨p, hp⟩ := hw'
      have HBQ := Lib.hid (show Below w1.heap.size w1 wq from below_then HBR.out (hp ▸ p.h) HBR.out.size)
      clear L0 L1 L2 L3 L4 R0 R1 R2 R3 R4 M1 M2 hp p
      go_wp2
      go_roundw
      case rel => exact ⟨i + 1, by go_num, hlt, HBQ.out⟩
      case measure => simp [intOf]; omega
    · obtain rfl : i = N := by omega
      have HBW := Lib.hid (below_then HB1.out HBR.out HB1.out.size)
      have HC1 := Lib.hid (HCP.out wr A c (HA1.out.below HBR.out) HAN.out)
      go_wp2_with fail
      refine HC1.out.mono ?_
      rintro e w2 ⟨AX, cx, rfl, hOX, hBX⟩
      have HX := Lib.hid hOX.rd
      have HB2 := Lib.hid (below_then HBR.out hBX HBR.out.size)
      have HC2 := Lib.hid (HCR.out w2 B d (HR1.out.below HB2.out))
      clear hOX hBX HC1
      go_wp2_with fail
      refine HC2.out.mono ?_
      rintro e w3 ⟨AY, cy, rfl, hOY, hBY⟩
      have HY := Lib.hid hOY.rd
      have HX3 := Lib.hid (HX.out.below hBY)
      have HB3 := Lib.hid (below_then HB2.out hBY HB2.out.size)
      have HB4 := Lib.hid (HBO.out w3 (below_then HB1.out HB3.out HB1.out.size))
      clear hOY hBY HC2 HX HB2
      go_wp2_with fail
      refine HB4.out.mono ?_
      rintro e w4 ⟨A3, c3, B3, d3, rfl, hA3, hB3, hb4⟩
      rw [← HN.out] at hA3 hB3 ⊢
      have HA3 := Lib.hid hA3.rd
      have HX4 := Lib.hid (HX3.out.below hb4)
      have HY4 := Lib.hid (HY.out.below hb4)
      have HB5 := Lib.hid (below_then HB3.out hb4 HB3.out.size)
      have HA4 := Lib.hid (HA1.out.below HB5.out)
      have HBF := Lib.hid (below_then HB1.out HB5.out HB1.out.size)
      clear hA3 hB3 hb4 HB4 HX3 HY HB3
      obtain ⟨M, hM⟩ : ∃ M, M = ids.length := ⟨_, rfl⟩
      have HML := Lib.hid hM
      rw [← hM]
      clear hM
      have herr := HER.out
      go_wp2
      go_loopw [16] (fun vj w5 => ∃ j : Nat, vj = .int .i64 j ∧ j ≤ i ∧ Below w4.heap.size w4 w5) (fun vj _ => i - (intOf vj).toNat)
      case atStart => exact ⟨0, rfl, Nat.zero_le _, Below.refl _ _⟩
      case round =>
        obtain ⟨j, rfl, hj, hB⟩ := hrel
        have HBJ := Lib.hid hB
        clear hB
        by_cases hlt2 : j < i
        · have jz : (j : Int) < (i : Int) := by omega
          have hjl : j < l.length := by rw [← HN.out]; exact hlt2
          obtain ⟨b1, o1, rfl⟩ := rd_some HA4.out (by omega)
          obtain ⟨b2, o2, rfl⟩ := rd_some HA3.out (by omega)
          obtain ⟨q0, q1, q2, q3, q4⟩ := rd5 (HA4.out.below HBJ.out) hjl
          obtain ⟨r0, r1, r2, r3, r4⟩ := rd5 (HA3.out.below HBJ.out) hjl
          obtain ⟨x, hx⟩ : ∃ x, x = l[j]! := ⟨_, rfl⟩
          rw [← hx] at q0 q1 q2 q3 q4 r0 r1 r2 r3 r4
          have hne := fun W => neqR x W
          have hgd := fun a b W => guardR a b x W
          clear hx hjl
          go_wp2_with fail
          go_big_quiet (fail)
          go_wp2
          go_roundw
          case rel => exact ⟨j + 1, by go_num, hlt2, belowN HBJ.out _⟩
          case measure => simp [intOf]; omega
        · obtain rfl : j = i := by omega
          have HSM := Lib.hid (ids_same AX M cx ids HML.out (HX4.out.below HBJ.out) AY M cy ids HML.out (HY4.out.below HBJ.out) (HMB.out M HML.out) (HMB.out M HML.out))
          have HBG := Lib.hid (below_then HBF.out HBJ.out HBF.out.size)
          go_wp2_with fail
          refine HSM.out.mono ?_
          rintro e w5 ⟨rfl, hb5⟩
          have HB6 := Lib.hid (below_then HBG.out hb5 HBG.out.size)
          have HWK := Lib.hid (HW.out w5)
          rw [show (ids == ids) = true by simp]
          clear hb5 HSM
          go_wp2_with fail
          refine HWK.out.mono ?_
          rintro e w6 ⟨rfl, hb6⟩
          have HB7 := Lib.hid (below_then HB6.out hb6 HB6.out.size)
          clear hb6 HWK
          go_wp2
          go_ret
          exact ⟨rfl, HB7.out⟩
end Go.Proofs.Ytcblhfjgdkbinaa.Re
