/- The document's Find and Count. -/
import Derived.Test.YtfpohiflpemkjaaTrI
namespace Go.Proofs.Ytfpohiflpemkjaa.Tr
open Go.RowKit Go.Proofs.Ytfpohiflpemkjaa.Mem Go.Proofs.Ytfpohiflpemkjaa.Sl Go.Proofs.Ytfpohiflpemkjaa.Cl Go.Proofs.Ytfpohiflpemkjaa.Mo Go.Shelf
open Go.Proofs.Ytfpohiflpemkjaa.FnL (Pred enc_at below_then)
set_option linter.unusedVariables false

theorem md_own {w : World} {base n c : Nat} {A : Option Addr} {m : List Bool} (h : App.Own w base 4 A n c (m.map Value.bool)) (hn : n ≤ 9223372036854775807) : MdOk w.heap.size w A n m :=
  ⟨by simpa using h.1, hn, h.rd⟩
theorem shl_pow {V M : Nat} (h : M = 2 ^ V) (hM : M ≤ 65536) : wrap64 ((2 : Int) ^ V) = (M : Int) := by
  rw [show ((2 : Int) ^ V) = (M : Int) by rw [h]; simp]
  unfold wrap64; omega
set_option maxRecDepth 100000 in
theorem rFind_any {B : Nat} {w : World} (hB : B ≤ w.heap.size) (N : Int) (ca : Option Addr) (cn cc : Nat) (cs : List CV) (hcs : ClsOk B w ca cn cs) :
    Calls Try.prog 23 #[.agg #[.int .i64 N, .slice ca cn cc]] w fun e w' => FindR w.heap.size N cs e w' ∧ Below w.heap.size w w' := by
  have HS := Lib.hid hB
  have HCS := Lib.hid hcs
  clear hB hcs
  go_enter Try.func23, Try.ntmps23
  go_upto_region 1 with (fail)
  obtain ⟨W0, hW0⟩ : ∃ W0, W0 = w.alloc (.cells #[.int .i64 N, .slice ca cn cc] 34) := ⟨_, rfl⟩
  rw [← hW0]
  have HB0 := Lib.hid (show Below w.heap.size w W0 from hW0 ▸ ((Below.refl _ w).alloc (Nat.le_refl _) _))
  have K0 := Lib.hid (show Blk W0 w.heap.size 34 #[.int .i64 N, .slice ca cn cc] from hW0 ▸ Blk.new w _ _)
  have HW0 := Lib.hid (show W0.heap.size = w.heap.size + 1 by rw [hW0]; simp)
  clear hW0
  have q1 : W0.cell? ⟨w.heap.size, 0, none⟩ = some (.int .i64 N) := K0.out.cell 0
  have q2 : W0.cell? ⟨w.heap.size, 1, none⟩ = some (.slice ca cn cc) := K0.out.cell 1
  have HC := Lib.hid (rTaken_any (Nat.le_trans HS.out HB0.out.size) N ca cn cc cs (HCS.out.below (HB0.out.mono HS.out)))
  go_wp2_with fail
  refine HC.out.mono ?_
  rintro e w1 ⟨rfl, hb1⟩
  have HB1 := Lib.hid (below_then HB0.out hb1 HB0.out.size)
  have HZ1 := Lib.hid hb1.size
  have K01 := Lib.hid (K0.out.below hb1)
  clear hb1 q1 q2 HC
  by_cases hne : takenE N cs = 0
  · have HTK := Lib.hid (taken_ok hne)
    obtain ⟨V, hV⟩ : ∃ V : Nat, N = V := ⟨N.toNat, by have := HTK.out.2.1; omega⟩
    subst hV
    have hV16 : V ≤ 16 := by have := HTK.out.2.2.1; omega
    obtain ⟨p, hp⟩ : ∃ p, p = satB V cs := ⟨_, rfl⟩
    obtain ⟨M, hM⟩ : ∃ M, M = 2 ^ V := ⟨_, rfl⟩
    have HE := Lib.hid (show findS (V : Int) cs = if 0 ≤ firstF p M 0 then (modelB V (firstF p M 0).toNat, true, 0) else ([], false, 0) by rw [hp, hM]; exact if_pos hne)
    rw [hne]
    have HP := Lib.hid hp
    have hM16 : M ≤ 65536 := hM ▸ Nat.le_trans (Nat.pow_le_pow_right (by decide) hV16) (by decide)
    have HM := Lib.hid hM
    have hsh := shl_pow hM hM16
    clear hp hM hne
    go_wp2_with fail
    go_loopw [6] (fun i wr => ∃ k : Nat, k ≤ M ∧ i = .int .i64 k ∧ firstF p M 0 = firstF p (M - k) k ∧ Below w1.heap.size w1 wr) (fun i _ => M - (intOf i).toNat)
    case atStart => exact ⟨0, Nat.zero_le _, rfl, rfl, Below.refl _ _⟩
    case round =>
      obtain ⟨k, hk, rfl, hf, hb⟩ := hrel
      have HF := Lib.hid hf
      have HB := Lib.hid hb
      have HBW := Lib.hid (below_then HB1.out hb HB1.out.size)
      have q0 : wr.cell? ⟨w.heap.size, 0, none⟩ = some (.int .i64 V) := (K01.out.below hb).cell 0
      have q1 : wr.cell? ⟨w.heap.size, 1, none⟩ = some (.slice ca cn cc) := (K01.out.below hb).cell 1
      have HKW := Lib.hid (K01.out.below hb)
      clear hf hb
      by_cases hlt : k < M
      · have HSP := Lib.hid (HF.out.trans (firstF_step p (M - k) k (by omega)))
        have HC := Lib.hid (model_any V k hV16 (HM.out ▸ hlt) wr)
        go_wp2_with fail
        refine HC.out.mono ?_
        rintro e w2 ⟨A, c, rfl, hO, hb2⟩
        have HO := Lib.hid hO
        have HB2 := Lib.hid (below_then HB.out hb2 HB.out.size)
        have HBW2 := Lib.hid (below_then HBW.out hb2 HBW.out.size)
        have HK2 := Lib.hid (HKW.out.below hb2)
        clear hO hb2 q0 q1 HC
        have q0 : w2.cell? ⟨w.heap.size, 0, none⟩ = some (.int .i64 V) := HK2.out.cell 0
        have q1 : w2.cell? ⟨w.heap.size, 1, none⟩ = some (.slice ca cn cc) := HK2.out.cell 1
        have HC := Lib.hid (rHolds_any (B := w2.heap.size) (c := c) (cc := cc) (vars := V) (Nat.le_refl _) (md_own HO.out (by omega)) ((HCS.out.below (HBW2.out.mono HS.out)).up (Nat.le_trans HS.out HBW2.out.size)))
        have HPK := Lib.hid (show p k = holdsB (modelB V k) cs by rw [HP.out]; rfl)
        generalize holdsB (modelB V k) cs = hv at *
        go_wp2_with fail
        refine HC.out.mono ?_
        rintro e w3 ⟨rfl, hb3⟩
        have HB3 := Lib.hid (below_then HB2.out hb3 HB2.out.size)
        have HBW3 := Lib.hid (below_then HBW2.out hb3 HBW2.out.size)
        have HO3 := Lib.hid ((HO.out.below hb3).low HBW.out.size)
        clear hb3 q0 q1 HC
        cases hv with
        | true =>
          have HFF := Lib.hid (HSP.out.trans (if_pos HPK.out))
          have HFE := Lib.hid (HE.out.trans (if_pos (by rw [HFF.out]; exact Int.natCast_nonneg _)))
          go_wp2
          go_ret3
          have hml := modelB_length V k
          have := FindR.of (base := w.heap.size) (w' := w3) HFE.out (A := A) (c := c) (by
            rw [HFF.out, show (Int.toNat (k : Int)) = k from rfl, hml]
            exact HO3.out)
          rw [HFF.out, show (Int.toNat (k : Int)) = k from rfl, hml] at this
          exact ⟨this, HBW3.out⟩
        | false =>
          have HFF := Lib.hid (HSP.out.trans (if_neg (by rw [HPK.out]; decide)))
          have HMK := Lib.hid (show M - k - 1 = M - (k + 1) by omega)
          go_wp2
          go_roundw
          case rel => exact ⟨k + 1, by omega, by go_num, by rw [← HMK.out]; exact HFF.out, HB3.out⟩
          case measure => simp [intOf]; omega
      · have HFF := Lib.hid (HF.out.trans (show firstF p (M - k) k = -1 by rw [show M - k = 0 by omega]; rfl))
        have HFE := Lib.hid (HE.out.trans (if_neg (by rw [HFF.out]; decide)))
        go_wp2
        go_ret3
        exact ⟨.of HFE.out (App.Own.nil _ _ _), HBW.out⟩
  · have HE := Lib.hid (show findS N cs = ([], false, takenE N cs) from if_neg hne)
    have hne' : (takenE N cs == 0) = false := by simpa using hne
    clear hne
    generalize takenE N cs = er at *
    go_wp2
    go_ret3
    exact ⟨.of HE.out (App.Own.nil _ _ _), HB1.out⟩
set_option maxRecDepth 100000 in
theorem rCount_any {B : Nat} {w : World} (hB : B ≤ w.heap.size) (N : Int) (ca : Option Addr) (cn cc : Nat) (cs : List CV) (hcs : ClsOk B w ca cn cs) :
    Calls Try.prog 25 #[.agg #[.int .i64 N, .slice ca cn cc]] w fun e w' => e = .returned (.tuple #[.int .i64 (countS N cs).1, .int .i64 (countS N cs).2]) ∧ Below w.heap.size w w' := by
  have HS := Lib.hid hB
  have HCS := Lib.hid hcs
  clear hB hcs
  go_enter Try.func25, Try.ntmps25
  go_upto_region 1 with (fail)
  obtain ⟨W0, hW0⟩ : ∃ W0, W0 = w.alloc (.cells #[.int .i64 N, .slice ca cn cc] 34) := ⟨_, rfl⟩
  rw [← hW0]
  have HB0 := Lib.hid (show Below w.heap.size w W0 from hW0 ▸ ((Below.refl _ w).alloc (Nat.le_refl _) _))
  have K0 := Lib.hid (show Blk W0 w.heap.size 34 #[.int .i64 N, .slice ca cn cc] from hW0 ▸ Blk.new w _ _)
  have HW0 := Lib.hid (show W0.heap.size = w.heap.size + 1 by rw [hW0]; simp)
  clear hW0
  have q1 : W0.cell? ⟨w.heap.size, 0, none⟩ = some (.int .i64 N) := K0.out.cell 0
  have q2 : W0.cell? ⟨w.heap.size, 1, none⟩ = some (.slice ca cn cc) := K0.out.cell 1
  have HC := Lib.hid (rTaken_any (Nat.le_trans HS.out HB0.out.size) N ca cn cc cs (HCS.out.below (HB0.out.mono HS.out)))
  go_wp2_with fail
  refine HC.out.mono ?_
  rintro e w1 ⟨rfl, hb1⟩
  have HB1 := Lib.hid (below_then HB0.out hb1 HB0.out.size)
  have HZ1 := Lib.hid hb1.size
  have K01 := Lib.hid (K0.out.below hb1)
  clear hb1 q1 q2 HC
  by_cases hne : takenE N cs = 0
  · have HTK := Lib.hid (taken_ok hne)
    obtain ⟨V, hV⟩ : ∃ V : Nat, N = V := ⟨N.toNat, by have := HTK.out.2.1; omega⟩
    subst hV
    have hV16 : V ≤ 16 := by have := HTK.out.2.2.1; omega
    obtain ⟨p, hp⟩ : ∃ p, p = satB V cs := ⟨_, rfl⟩
    obtain ⟨M, hM⟩ : ∃ M, M = 2 ^ V := ⟨_, rfl⟩
    have HE := Lib.hid (show countS (V : Int) cs = (countF p M 0, 0) by rw [hp, hM]; exact if_pos hne)
    rw [hne]
    have HP := Lib.hid hp
    have hM16 : M ≤ 65536 := hM ▸ Nat.le_trans (Nat.pow_le_pow_right (by decide) hV16) (by decide)
    have HM := Lib.hid hM
    have hsh := shl_pow hM hM16
    have HCL := Lib.hid (countF_le p M 0)
    clear hp hM hne
    go_wp2_with fail
    go_loopw [5, 6] (fun nn i wr => ∃ k x : Nat, k ≤ M ∧ x ≤ k ∧ nn = .int .i64 x ∧ i = .int .i64 k ∧ x + countF p (M - k) k = countF p M 0 ∧ Below w1.heap.size w1 wr) (fun _ i _ => M - (intOf i).toNat)
    case atStart => exact ⟨0, 0, Nat.zero_le _, Nat.zero_le _, rfl, rfl, Nat.zero_add _, Below.refl _ _⟩
    case round =>
      obtain ⟨k, x, hk, hxk, rfl, rfl, hf, hb⟩ := hrel
      have HF := Lib.hid hf
      have HB := Lib.hid hb
      have HBW := Lib.hid (below_then HB1.out hb HB1.out.size)
      have q0 : wr.cell? ⟨w.heap.size, 0, none⟩ = some (.int .i64 V) := (K01.out.below hb).cell 0
      have q1 : wr.cell? ⟨w.heap.size, 1, none⟩ = some (.slice ca cn cc) := (K01.out.below hb).cell 1
      have HKW := Lib.hid (K01.out.below hb)
      clear hf hb
      by_cases hlt : k < M
      · have HSP := Lib.hid (show x + ((if p k then 1 else 0) + countF p (M - (k + 1)) (k + 1)) = countF p M 0 by
          rw [← HF.out, show M - k = (M - (k + 1)) + 1 by omega, countF_succ])
        have HBB := Lib.hid (show ∀ w6, Below wr.drew.heap.size wr.drew w6 → Below wr.heap.size wr w6 from fun w6 h => ⟨h.os, h.tape, h.output, h.size, h.block⟩)
        have HC := Lib.hid (model_any V k hV16 (HM.out ▸ hlt) wr.drew)
        have HPK := Lib.hid (show p k = holdsB (modelB V k) cs by rw [HP.out]; rfl)
        obtain ⟨hv, hhv⟩ : ∃ hv, hv = holdsB (modelB V k) cs := ⟨_, rfl⟩
        have HPV := Lib.hid (HPK.out.trans hhv.symm)
        have HNX := Lib.hid fun (A : Option Addr) (c : Nat) (w2 : World) (hO : App.Own w2 wr.drew.heap.size 4 A V c ((modelB V k).map Value.bool)) (hb2 : Below wr.drew.heap.size wr.drew w2) => (show
            Calls Try.prog 48 #[.agg #[.int .i64 V, .slice ca cn cc], .slice A V c] w2 (fun e w' => e = .returned (.bool hv) ∧ Below w2.heap.size w2 w') ∧
            w2.cell? ⟨w.heap.size, 0, none⟩ = some (.int .i64 V) ∧ w2.cell? ⟨w.heap.size, 1, none⟩ = some (.slice ca cn cc) from by
          have hk2 := HKW.out.below (HBB.out w2 hb2)
          refine ⟨?_, hk2.cell 0, hk2.cell 1⟩
          rw [hhv]
          have hbw2 := HBW.out.trans ((HBB.out w2 hb2).mono HBW.out.size)
          exact rHolds_any (B := w2.heap.size) (c := c) (cc := cc) (vars := V) (Nat.le_refl _) (md_own hO (by omega)) ((HCS.out.below (hbw2.mono HS.out)).up (Nat.le_trans HS.out hbw2.size)))
        have HBL := Lib.hid fun (w2 w3 : World) (hb2 : Below wr.drew.heap.size wr.drew w2) (hb3 : Below w2.heap.size w2 w3) => (show Below w1.heap.size w1 w3 from
          HB.out.trans (((HBB.out w2 hb2).trans (hb3.mono (HBB.out w2 hb2).size)).mono HB.out.size))
        clear hhv HPK
        go_upto_region 8 with (fail)
        go_region_law (first
          | (go_simp; go_at_call 19; refine HC.out.mono ?_; rintro e w2 ⟨A, c, rfl, hO, hb2⟩; obtain ⟨hcl, c0, c1⟩ := HNX.out A c w2 hO hb2; have HH := Lib.hid hcl; have HB2 := Lib.hid hb2; clear hcl hO hb2)
          | (go_simp; go_at_call 48; refine HH.out.mono ?_; rintro e w3 ⟨rfl, hb3⟩; have HB3 := Lib.hid hb3; clear hb3))
        all_goals
          have HB4 := Lib.hid (HBL.out _ _ HB2.out HB3.out)
          cases hv with
          | true =>
            have HFF := Lib.hid (show x + 1 + countF p (M - (k + 1)) (k + 1) = countF p M 0 by have := HSP.out; rw [HPV.out, if_pos rfl] at this; omega)
            go_wp2
            go_roundw
            case rel => exact ⟨k + 1, x + 1, by omega, by omega, by go_num, by go_num, HFF.out, HB4.out⟩
            case measure => simp [intOf]; omega
          | false =>
            have HFF := Lib.hid (show x + countF p (M - (k + 1)) (k + 1) = countF p M 0 by have := HSP.out; rw [HPV.out, if_neg (by decide)] at this; omega)
            go_wp2
            go_roundw
            case rel => exact ⟨k + 1, x, by omega, by omega, rfl, by go_num, HFF.out, HB4.out⟩
            case measure => simp [intOf]; omega
      · have HX := Lib.hid (show x = countF p M 0 by have := HF.out; rw [show M - k = 0 by omega] at this; exact this)
        go_wp2
        go_ret2
        exact ⟨by rw [HE.out]; show Ending.returned (.tuple #[.int .i64 x, .int .i64 0]) = .returned (.tuple #[.int .i64 ((countF p M 0 : Nat) : Int), .int .i64 0]); rw [← HX.out], HBW.out⟩
  · have HE := Lib.hid (show countS N cs = (0, takenE N cs) from if_neg hne)
    have hne' : (takenE N cs == 0) = false := by simpa using hne
    clear hne
    generalize takenE N cs = er at *
    go_wp2
    go_ret2
    exact ⟨by rw [HE.out]; rfl, HB1.out⟩
end Go.Proofs.Ytfpohiflpemkjaa.Tr
