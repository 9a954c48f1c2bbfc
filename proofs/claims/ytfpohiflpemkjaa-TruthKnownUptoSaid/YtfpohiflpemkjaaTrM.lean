/- The document's Implies. -/
import Derived.Test.YtfpohiflpemkjaaTrL
namespace Go.Proofs.Ytfpohiflpemkjaa.Tr
open Go.RowKit Go.Proofs.Ytfpohiflpemkjaa.Mem Go.Proofs.Ytfpohiflpemkjaa.Sl Go.Proofs.Ytfpohiflpemkjaa.Cl Go.Proofs.Ytfpohiflpemkjaa.Mo Go.Shelf
open Go.Proofs.Ytfpohiflpemkjaa.FnL (Pred enc_at below_then)
set_option linter.unusedVariables false

set_option maxRecDepth 100000 in
theorem rImplies_any {B : Nat} {w : World} (hB : B ≤ w.heap.size) (N : Int) (ca : Option Addr) (cn cc : Nat) (cs : List CV) (hcs : ClsOk B w ca cn cs) (x : CV) (hx : ClOk B w x) :
    Calls Try.prog 29 #[.agg #[.int .i64 N, .slice ca cn cc], x.v] w fun e w' => e = .returned (.tuple #[.bool (impliesS N cs x.l).1, .int .i64 (impliesS N cs x.l).2]) ∧ Below w.heap.size w w' := by
  have HS := Lib.hid hB
  have HCS := Lib.hid hcs
  have HX := Lib.hid hx
  obtain ⟨xa, xn, xc, l⟩ := x
  dsimp only [CV.v]
  have HN := Lib.hid (show xn = l.length from hx.ln)
  have hxn : xn ≤ 9223372036854775807 := hx.mx
  clear hB hcs hx
  go_enter Try.func29, Try.ntmps29
  go_upto_region 1 with (fail)
  obtain ⟨W0, hW0⟩ : ∃ W0, W0 = w.alloc (.cells #[.int .i64 N, .slice ca cn cc] 34) := ⟨_, rfl⟩
  rw [← hW0]
  have HB0 := Lib.hid (show Below w.heap.size w W0 from hW0 ▸ ((Below.refl _ w).alloc (Nat.le_refl _) _))
  have K0 := Lib.hid (show Blk W0 w.heap.size 34 #[.int .i64 N, .slice ca cn cc] from hW0 ▸ Blk.new w _ _)
  clear hW0
  have q1 : W0.cell? ⟨w.heap.size, 0, none⟩ = some (.int .i64 N) := K0.out.cell 0
  have q2 : W0.cell? ⟨w.heap.size, 1, none⟩ = some (.slice ca cn cc) := K0.out.cell 1
  have HC := Lib.hid (rTaken_any (Nat.le_trans HS.out HB0.out.size) N ca cn cc cs (HCS.out.below (HB0.out.mono HS.out)))
  go_wp2_with fail
  refine HC.out.mono ?_
  rintro e w1 ⟨rfl, hb1⟩
  have HB1 := Lib.hid (below_then HB0.out hb1 HB0.out.size)
  have K01 := Lib.hid (K0.out.below hb1)
  clear hb1 q1 q2 HC
  by_cases hne : takenE N cs = 0
  · have HTK := Lib.hid (taken_ok hne)
    obtain ⟨V, hV⟩ : ∃ V : Nat, N = V := ⟨N.toNat, by have := HTK.out.2.1; omega⟩
    subst hV
    have hV16 : V ≤ 16 := by have := HTK.out.2.2.1; omega
    obtain ⟨p, hp⟩ : ∃ p, p = unlessF V cs l := ⟨_, rfl⟩
    obtain ⟨M, hM⟩ : ∃ M, M = 2 ^ V := ⟨_, rfl⟩
    have HE := Lib.hid (show impliesS (V : Int) cs l = if l.any (badB V) then (false, 4) else (decide (firstF p M 0 < 0), 0) by rw [hp, hM]; exact if_pos hne)
    rw [hne]
    have HP := Lib.hid hp
    have hM16 : M ≤ 65536 := hM ▸ Nat.le_trans (Nat.pow_le_pow_right (by decide) hV16) (by decide)
    have HM := Lib.hid hM
    have HSH := Lib.hid (shl_pow hM hM16)
    clear hp hM hne
    go_wp2_with fail
    go_loopw [7] (fun i wr => ∃ j : Nat, j ≤ xn ∧ i = .int .i64 j ∧ l.any (badB V) = (l.drop j).any (badB V) ∧ Below w1.heap.size w1 wr) (fun i _ => xn - (intOf i).toNat)
    case atStart => exact ⟨0, Nat.zero_le _, rfl, rfl, Below.refl _ _⟩
    case round =>
      obtain ⟨j, hj, rfl, hf, hb⟩ := hrel
      have HF := Lib.hid hf
      have HB := Lib.hid hb
      have HBW := Lib.hid (below_then HB1.out hb HB1.out.size)
      have K02 := Lib.hid (K01.out.below hb)
      have q0 : wr.cell? ⟨w.heap.size, 0, none⟩ = some (.int .i64 V) := K02.out.cell 0
      clear hf hb
      by_cases hlt : j < xn
      · have hjl : j < l.length := by rw [← HN.out]; exact hlt
        obtain ⟨b2, off2, ha2, _, hc2⟩ := RdV.at_ ((HX.out.below (HBW.out.mono HS.out)).rd.rd (Nat.le_trans HS.out HBW.out.size)) (enc_at (enc := Value.int .i32) hjl)
        dsimp only at ha2
        subst ha2
        have HM3 := Lib.hid (show l[j]'hjl ∈ l from List.getElem_mem hjl)
        have hlb := HX.out.lb _ HM3.out
        have HSC := Lib.hid (show l.any (badB V) = (badB V (l[j]'hjl) || (l.drop (j + 1)).any (badB V)) by rw [HF.out, List.drop_eq_getElem_cons hjl, List.any_cons])
        generalize l[j]'hjl = y at *
        have HC := Lib.hid (fun W => rVar_any y hlb.1 hlb.2 W)
        clear hjl hlb
        by_cases h0 : y = 0
        · have HFE := Lib.hid (HE.out.trans (if_pos (by rw [HSC.out, h0]; rfl)))
          subst h0
          go_wp2_with fail
          go_region
          all_goals go_wp2
          all_goals go_ret2
          all_goals exact ⟨by rw [HFE.out]; rfl, HBW.out.drew⟩
        · have h0' : (y == 0) = false := by simpa using h0
          have HBD := Lib.hid (show badB V y = decide ((V : Int) < varI y) by unfold badB; rw [h0']; rfl)
          rw [HBD.out] at HSC
          clear h0 HBD
          generalize varI y = v at *
          by_cases h4 : (V : Int) < v
          · have HFE := Lib.hid (HE.out.trans (if_pos (by rw [HSC.out, decide_eq_true h4]; rfl)))
            go_wp2_with fail
            go_quiet ((go_at_call 40; exact qs (HC.out _) ⟨_, rfl⟩))
            go_wp2
            go_ret2
            exact ⟨by rw [HFE.out]; rfl, belowN HBW.out _⟩
          · have HFE := Lib.hid (HSC.out.trans (by rw [decide_eq_false h4, Bool.false_or]))
            go_wp2_with fail
            go_quiet ((go_at_call 40; exact qs (HC.out _) ⟨_, rfl⟩))
            go_wp2
            go_roundw
            case rel => exact ⟨j + 1, by omega, by go_num, HFE.out, belowN HB.out _⟩
            case measure => simp [intOf]; omega
      · have HFE := Lib.hid (HE.out.trans (if_neg (by rw [HF.out, List.drop_of_length_le (by rw [← HN.out]; omega)]; simp)))
        rename World => wb
        clear HE HF
        have hsh := HSH.out
        go_wp2_with fail
        clear q0 hlt hj
        go_loopw [8] (fun i wr => ∃ k : Nat, k ≤ M ∧ i = .int .i64 k ∧ firstF p M 0 = firstF p (M - k) k ∧ Below wb.heap.size wb wr) (fun i _ => M - (intOf i).toNat)
        case atStart => exact ⟨0, Nat.zero_le _, rfl, rfl, Below.refl _ _⟩
        case round =>
          obtain ⟨k, hk, rfl, hf, hb⟩ := hrel
          have HF := Lib.hid hf
          have HB2 := Lib.hid (below_then HB.out hb HB.out.size)
          have HBW2 := Lib.hid (below_then HBW.out hb HBW.out.size)
          have HBB := Lib.hid hb
          have HK := Lib.hid (K02.out.below hb)
          have q0 : wr.cell? ⟨w.heap.size, 0, none⟩ = some (.int .i64 V) := HK.out.cell 0
          have q1 : wr.cell? ⟨w.heap.size, 1, none⟩ = some (.slice ca cn cc) := HK.out.cell 1
          clear hf hb
          by_cases hlt : k < M
          · have HSP := Lib.hid (HF.out.trans (firstF_step p (M - k) k (by omega)))
            have HC := Lib.hid (model_any V k hV16 (HM.out ▸ hlt) wr)
            go_wp2_with fail
            refine HC.out.mono ?_
            rintro e w2 ⟨A, c, rfl, hO, hb2⟩
            have HO := Lib.hid hO
            have HB3 := Lib.hid (below_then HBB.out hb2 HBB.out.size)
            have HBW3 := Lib.hid (below_then HBW2.out hb2 HBW2.out.size)
            have HK3 := Lib.hid (HK.out.below hb2)
            clear hO hb2 q0 q1 HC
            have q0 : w2.cell? ⟨w.heap.size, 0, none⟩ = some (.int .i64 V) := HK3.out.cell 0
            have q1 : w2.cell? ⟨w.heap.size, 1, none⟩ = some (.slice ca cn cc) := HK3.out.cell 1
            have HMD := Lib.hid (md_own HO.out (by omega))
            have HC := Lib.hid (rHolds_any (B := w2.heap.size) (c := c) (cc := cc) (vars := V) (Nat.le_refl _) HMD.out ((HCS.out.below (HBW3.out.mono HS.out)).up (Nat.le_trans HS.out HBW3.out.size)))
            have HPK := Lib.hid (show p k = (holdsB (modelB V k) cs && !valB (modelB V k) l) by rw [HP.out]; rfl)
            have HX3 := Lib.hid ((HX.out.below (HBW3.out.mono HS.out)).up (Nat.le_trans HS.out HBW3.out.size))
            have HMK := Lib.hid (show M - k - 1 = M - (k + 1) by omega)
            generalize holdsB (modelB V k) cs = hv at *
            go_wp2_with fail
            refine HC.out.mono ?_
            rintro e w3 ⟨rfl, hb3⟩
            have HB4 := Lib.hid (below_then HB3.out hb3 HB3.out.size)
            have HBW4 := Lib.hid (below_then HBW3.out hb3 HBW3.out.size)
            have HC := Lib.hid (rValue_any (B := w2.heap.size) (c := c) hb3.size (HMD.out.below hb3) _ (HX3.out.below hb3))
            dsimp only [CV.v] at HC
            clear hb3 q0 q1
            cases hv with
            | true =>
              generalize valB (modelB V k) l = vv at *
              go_wp2_with fail
              refine HC.out.mono ?_
              rintro e w4 ⟨rfl, hb4⟩
              have HB5 := Lib.hid (below_then HB4.out hb4 HB4.out.size)
              have HBW5 := Lib.hid (below_then HBW4.out hb4 HBW4.out.size)
              clear hb4 HC
              cases vv with
              | false =>
                have HFF := Lib.hid (HSP.out.trans (if_pos HPK.out))
                go_wp2
                go_ret2
                exact ⟨by rw [HFE.out, HFF.out, show decide (((k : Nat) : Int) < 0) = false from decide_eq_false (by omega)]; rfl, HBW5.out⟩
              | true =>
                have HFF := Lib.hid (HSP.out.trans (if_neg (by rw [HPK.out]; decide)))
                go_wp2
                go_roundw
                case rel => exact ⟨k + 1, by omega, by go_num, by rw [← HMK.out]; exact HFF.out, HB5.out⟩
                case measure => simp [intOf]; omega
            | false =>
              have HFF := Lib.hid (HSP.out.trans (if_neg (by rw [HPK.out]; simp)))
              go_wp2
              go_roundw
              case rel => exact ⟨k + 1, by omega, by go_num, by rw [← HMK.out]; exact HFF.out, HB4.out⟩
              case measure => simp [intOf]; omega
          · have HFF := Lib.hid (HF.out.trans (show firstF p (M - k) k = -1 by rw [show M - k = 0 by omega]; rfl))
            go_wp2
            go_ret2
            exact ⟨by rw [HFE.out, HFF.out]; rfl, HBW2.out⟩
  · have HE := Lib.hid (show impliesS N cs l = (false, takenE N cs) from if_neg hne)
    have hne' : (takenE N cs == 0) = false := by simpa using hne
    clear hne
    generalize takenE N cs = er at *
    go_wp2
    go_ret2
    exact ⟨by rw [HE.out]; rfl, HB1.out⟩
end Go.Proofs.Ytfpohiflpemkjaa.Tr
