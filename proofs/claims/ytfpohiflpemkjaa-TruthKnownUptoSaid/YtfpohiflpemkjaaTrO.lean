/- The document's Alike. -/
import Derived.Test.YtfpohiflpemkjaaTrN
namespace Go.Proofs.Ytfpohiflpemkjaa.Tr
open Go.RowKit Go.Proofs.Ytfpohiflpemkjaa.Mem Go.Proofs.Ytfpohiflpemkjaa.Sl Go.Proofs.Ytfpohiflpemkjaa.Cl Go.Proofs.Ytfpohiflpemkjaa.Mo Go.Shelf
open Go.Proofs.Ytfpohiflpemkjaa.FnL (Pred enc_at below_then)
set_option linter.unusedVariables false

set_option maxRecDepth 100000 in
theorem rAlike_any {B : Nat} {w : World} (hB : B ≤ w.heap.size) (N : Int) (ca : Option Addr) (cn cc : Nat) (cs : List CV) (hcs : ClsOk B w ca cn cs) (N' : Int) (da : Option Addr) (dn dc : Nat) (ds : List CV) (hds : ClsOk B w da dn ds) :
    Calls Try.prog 31 #[.agg #[.int .i64 N, .slice ca cn cc], .agg #[.int .i64 N', .slice da dn dc]] w fun e w' => e = .returned (.tuple #[.bool (alikeS N cs N' ds).1, .int .i64 (alikeS N cs N' ds).2]) ∧ Below w.heap.size w w' := by
  have HS := Lib.hid hB
  have HCS := Lib.hid hcs
  have HDS := Lib.hid hds
  clear hB hcs hds
  go_enter Try.func31, Try.ntmps31
  go_upto_region 1 with (fail)
  obtain ⟨W0, hW0⟩ : ∃ W0, W0 = (w.alloc (.cells #[.int .i64 N, .slice ca cn cc] 34)).alloc (.cells #[.int .i64 N', .slice da dn dc] 34) := ⟨_, rfl⟩
  rw [← hW0]
  have HB0 := Lib.hid (show Below w.heap.size w W0 from hW0 ▸ (((Below.refl _ w).alloc (Nat.le_refl _) _).alloc (by simp) _))
  have K0 := Lib.hid (show Blk W0 w.heap.size 34 #[.int .i64 N, .slice ca cn cc] from hW0 ▸ (Blk.new w _ _).alloc _)
  have K1 := Lib.hid (show Blk W0 (w.heap.size + 1) 34 #[.int .i64 N', .slice da dn dc] by rw [hW0]; exact Cl.blk_here (by simp))
  clear hW0
  have q1 : W0.cell? ⟨w.heap.size, 0, none⟩ = some (.int .i64 N) := K0.out.cell 0
  have q2 : W0.cell? ⟨w.heap.size, 1, none⟩ = some (.slice ca cn cc) := K0.out.cell 1
  have HC := Lib.hid (rTaken_any (Nat.le_trans HS.out HB0.out.size) N ca cn cc cs (HCS.out.below (HB0.out.mono HS.out)))
  go_wp2_with fail
  refine HC.out.mono ?_
  rintro e w1 ⟨rfl, hb1⟩
  have HB1 := Lib.hid (below_then HB0.out hb1 HB0.out.size)
  have K01 := Lib.hid (K0.out.below hb1)
  have K11 := Lib.hid (K1.out.below hb1)
  clear hb1 q1 q2 HC
  by_cases hne : takenE N cs = 0
  · have HTK := Lib.hid (taken_ok hne)
    obtain ⟨V, hV⟩ : ∃ V : Nat, N = V := ⟨N.toNat, by have := HTK.out.2.1; omega⟩
    subst hV
    have hV16 : V ≤ 16 := by have := HTK.out.2.2.1; omega
    have HE := Lib.hid (show alikeS (V : Int) cs N' ds = if takenE N' ds = 0 then (if (V : Int) = N' then (decide (firstF (unlikeF V cs ds) (2 ^ V) 0 < 0), 0) else (false, 2)) else (false, takenE N' ds) from if_pos hne)
    rw [hne]
    clear hne
    have q1 : w1.cell? ⟨w.heap.size + 1, 0, none⟩ = some (.int .i64 N') := K11.out.cell 0
    have q2 : w1.cell? ⟨w.heap.size + 1, 1, none⟩ = some (.slice da dn dc) := K11.out.cell 1
    have HC := Lib.hid (rTaken_any (Nat.le_trans HS.out HB1.out.size) N' da dn dc ds (HDS.out.below (HB1.out.mono HS.out)))
    go_wp2_with fail
    refine HC.out.mono ?_
    rintro e w2 ⟨rfl, hb2⟩
    have HB2 := Lib.hid (below_then HB1.out hb2 HB1.out.size)
    have K02 := Lib.hid (K01.out.below hb2)
    have K12 := Lib.hid (K11.out.below hb2)
    clear hb2 q1 q2 HC
    by_cases hne : takenE N' ds = 0
    · have HTK' := Lib.hid (taken_ok hne)
      obtain ⟨V', hV⟩ : ∃ V' : Nat, N' = V' := ⟨N'.toNat, by have := HTK'.out.2.1; omega⟩
      subst hV
      have HF := Lib.hid (HE.out.trans (if_pos hne))
      rw [hne]
      clear hne
      have q0 : w2.cell? ⟨w.heap.size, 0, none⟩ = some (.int .i64 V) := K02.out.cell 0
      have q2 : w2.cell? ⟨w.heap.size + 1, 0, none⟩ = some (.int .i64 V') := K12.out.cell 0
      by_cases hVV : V = V'
      · subst hVV
        obtain ⟨p, hp⟩ : ∃ p, p = unlikeF V cs ds := ⟨_, rfl⟩
        obtain ⟨M, hM⟩ : ∃ M, M = 2 ^ V := ⟨_, rfl⟩
        have HG := Lib.hid (show alikeS (V : Int) cs (V : Int) ds = (decide (firstF p M 0 < 0), 0) by rw [hp, hM]; exact HF.out.trans (if_pos rfl))
        have HP := Lib.hid hp
        have hM16 : M ≤ 65536 := hM ▸ Nat.le_trans (Nat.pow_le_pow_right (by decide) hV16) (by decide)
        have HM := Lib.hid hM
        have hsh := shl_pow hM hM16
        clear hp hM
        go_wp2_with fail
        clear q0 q2
        go_loopw [7] (fun i wr => ∃ k : Nat, k ≤ M ∧ i = .int .i64 k ∧ firstF p M 0 = firstF p (M - k) k ∧ Below w2.heap.size w2 wr) (fun i _ => M - (intOf i).toNat)
        case atStart => exact ⟨0, Nat.zero_le _, rfl, rfl, Below.refl _ _⟩
        case round =>
          obtain ⟨k, hk, rfl, hf, hb⟩ := hrel
          have HX := Lib.hid hf
          have HB := Lib.hid hb
          have HBW := Lib.hid (below_then HB2.out hb HB2.out.size)
          have HK0 := Lib.hid (K02.out.below hb)
          have HK1 := Lib.hid (K12.out.below hb)
          have q0 : wr.cell? ⟨w.heap.size, 0, none⟩ = some (.int .i64 V) := HK0.out.cell 0
          clear hf hb
          by_cases hlt : k < M
          · have HSP := Lib.hid (HX.out.trans (firstF_step p (M - k) k (by omega)))
            have HMK := Lib.hid (show M - k - 1 = M - (k + 1) by omega)
            have HC := Lib.hid (model_any V k hV16 (HM.out ▸ hlt) wr)
            go_wp2_with fail
            refine HC.out.mono ?_
            rintro e w3 ⟨A, c, rfl, hO, hb3⟩
            have HMD := Lib.hid (md_own hO (by omega))
            have HB3 := Lib.hid (below_then HB.out hb3 HB.out.size)
            have HBW3 := Lib.hid (below_then HBW.out hb3 HBW.out.size)
            have HK2 := Lib.hid (HK0.out.below hb3)
            have HK3 := Lib.hid (HK1.out.below hb3)
            clear hO hb3 q0 HC
            have HBB := Lib.hid (show ∀ w6, Below w3.drew.heap.size w3.drew w6 → Below w3.heap.size w3 w6 from fun w6 h => ⟨h.os, h.tape, h.output, h.size, h.block⟩)
            have HPK := Lib.hid (show p k = (holdsB (modelB V k) cs != holdsB (modelB V k) ds) by rw [HP.out]; rfl)
            have HC := Lib.hid (rHolds_any (w := w3.drew) (B := w3.heap.size) (c := c) (cc := cc) (vars := V) (Nat.le_refl _) (HMD.out.below ((Below.refl _ w3).drew)) (((HCS.out.below (HBW3.out.mono HS.out)).up (Nat.le_trans HS.out HBW3.out.size)).below ((Below.refl _ w3).drew)))
            have HC2 := Lib.hid fun (w6 : World) (hb : Below w3.drew.heap.size w3.drew w6) => rHolds_any (w := w6) (B := w3.heap.size) (c := c) (cc := dc) (vars := V) (HBB.out w6 hb).size (HMD.out.below (HBB.out w6 hb)) (((HDS.out.below (HBW3.out.mono HS.out)).up (Nat.le_trans HS.out HBW3.out.size)).below (HBB.out w6 hb))
            have HKK := Lib.hid fun (w6 : World) (h : Below w3.drew.heap.size w3.drew w6) => (show w6.cell? ⟨w.heap.size, 0, none⟩ = some (.int .i64 V) ∧ w6.cell? ⟨w.heap.size, 1, none⟩ = some (.slice ca cn cc) ∧ w6.cell? ⟨w.heap.size + 1, 0, none⟩ = some (.int .i64 V) ∧ w6.cell? ⟨w.heap.size + 1, 1, none⟩ = some (.slice da dn dc) from
              ⟨(HK2.out.below (HBB.out w6 h)).cell 0, (HK2.out.below (HBB.out w6 h)).cell 1, (HK3.out.below (HBB.out w6 h)).cell 0, (HK3.out.below (HBB.out w6 h)).cell 1⟩)
            have t0 : w3.cell? ⟨w.heap.size, 0, none⟩ = some (.int .i64 V) := HK2.out.cell 0
            have t1 : w3.cell? ⟨w.heap.size, 1, none⟩ = some (.slice ca cn cc) := HK2.out.cell 1
            have t2 : w3.cell? ⟨w.heap.size + 1, 0, none⟩ = some (.int .i64 V) := HK3.out.cell 0
            have t3 : w3.cell? ⟨w.heap.size + 1, 1, none⟩ = some (.slice da dn dc) := HK3.out.cell 1
            generalize holdsB (modelB V k) cs = b1 at *
            generalize holdsB (modelB V k) ds = b2 at *
            go_upto_region 12 with (fail)
            go_region_law (first
              | (go_simp; go_at_call_of 48 (Value.slice ca cn cc); refine HC.out.mono ?_; rintro e w6 ⟨rfl, hb6⟩; obtain ⟨c0, c1, c2, c3⟩ := HKK.out w6 hb6; have HH := Lib.hid (HC2.out w6 hb6); have HB6 := Lib.hid hb6; clear hb6)
              | (go_simp; go_at_call_of 48 (Value.slice da dn dc); refine HH.out.mono ?_; rintro e w7 ⟨rfl, hb7⟩; have HB7 := Lib.hid hb7; clear hb7))
            all_goals
              have HB8 := Lib.hid ((HBB.out _ HB6.out).trans (HB7.out.mono (HBB.out _ HB6.out).size))
              have HB9 := Lib.hid (below_then HB3.out HB8.out HB3.out.size)
              have HBW9 := Lib.hid (below_then HBW3.out HB8.out HBW3.out.size)
              cases b1 <;> cases b2
              all_goals first
                | (have HFF := Lib.hid (HSP.out.trans (if_neg (by rw [HPK.out]; decide)))
                   go_wp2
                   go_roundw
                   case rel => exact ⟨k + 1, by omega, by go_num, by rw [← HMK.out]; exact HFF.out, HB9.out⟩
                   case measure => simp [intOf]; omega)
                | (have HFF := Lib.hid (HSP.out.trans (if_pos (by rw [HPK.out]; decide)))
                   go_wp2
                   go_ret2
                   exact ⟨by rw [HG.out, HFF.out, show decide (((k : Nat) : Int) < 0) = false from decide_eq_false (by omega)]; rfl, HBW9.out⟩)
          · have HFF := Lib.hid (HX.out.trans (show firstF p (M - k) k = -1 by rw [show M - k = 0 by omega]; rfl))
            go_wp2
            go_ret2
            exact ⟨by rw [HG.out, HFF.out]; rfl, HBW.out⟩
      · have hn' : (V : Int) ≠ V' := by omega
        have HG := Lib.hid (HF.out.trans (if_neg hn'))
        clear hVV
        go_wp2
        go_ret2
        exact ⟨by rw [HG.out]; rfl, HB2.out⟩
    · have HF := Lib.hid (HE.out.trans (if_neg hne))
      have hne' : (takenE N' ds == 0) = false := by simpa using hne
      clear hne
      generalize takenE N' ds = er at *
      go_wp2
      go_ret2
      exact ⟨by rw [HF.out]; rfl, HB2.out⟩
  · have HE := Lib.hid (show alikeS N cs N' ds = (false, takenE N cs) from if_neg hne)
    have hne' : (takenE N cs == 0) = false := by simpa using hne
    clear hne
    generalize takenE N cs = er at *
    go_wp2
    go_ret2
    exact ⟨by rw [HE.out]; rfl, HB1.out⟩
end Go.Proofs.Ytfpohiflpemkjaa.Tr
