/- cnf.Right and the document's Right at any formula: what they answer. -/
import Derived.Test.YtbgfijnadfeleaaLit
namespace Go.Proofs.Ytbgfijnadfeleaa.Tr
open Go.RowKit Go.Proofs.Ytbgfijnadfeleaa.Mem Go.Proofs.Ytbgfijnadfeleaa.Sl Go.Proofs.Ytbgfijnadfeleaa.Cl Go.Shelf
open Go.Proofs.Ytbgfijnadfeleaa.FnL (Pred enc_at below_then)
set_option linter.unusedVariables false

def badB (N x : Int) : Bool := x == 0 || decide (N < varI x)
def scan (N : Int) : List Int → Nat → Int
  | [], _ => 0
  | x :: xs, c => if c = 16777216 then 3 else if badB N x then 4 else scan N xs (c + 1)
def flat (cs : List CV) : List Int := cs.flatMap CV.l
def rightE (N : Int) (cs : List CV) : Int := if N < 0 ∨ 1048576 < N then 2 else if 1048576 < cs.length then 3 else scan N (flat cs) 0
theorem flat_drop {cs : List CV} {k : Nat} (hk : k < cs.length) : flat (cs.drop k) = (cs[k]'hk).l ++ flat (cs.drop (k + 1)) := by
  rw [List.drop_eq_getElem_cons hk]; rfl

set_option maxRecDepth 100000 in
theorem rRight_any {B : Nat} {w : World} (hB : B ≤ w.heap.size) (N : Int) (ca : Option Addr) (cn cc : Nat) (cs : List CV) (hcs : ClsOk B w ca cn cs) :
    Calls Try.prog 26 #[.agg #[.int .i64 N, .slice ca cn cc]] w fun e w' => e = .returned (.int .i64 (rightE N cs)) ∧ Below w.heap.size w w' := by
  have HS := Lib.hid hB
  have HCS := Lib.hid hcs
  have HL := Lib.hid hcs.ln
  have hmx := hcs.mx
  have HR := Lib.hid (show rightE N cs = if N < 0 ∨ 1048576 < N then 2 else if 1048576 < cn then 3 else scan N (flat cs) 0 by rw [hcs.ln]; rfl)
  clear hB hcs
  go_enter Try.func26, Try.ntmps26
  go_upto_region 1 with (fail)
  obtain ⟨W0, hW0⟩ : ∃ W0, W0 = w.alloc (.cells #[.int .i64 N, .slice ca cn cc] 41) := ⟨_, rfl⟩
  rw [← hW0]
  have HB0 := Lib.hid (show Below w.heap.size w W0 from hW0 ▸ ((Below.refl _ w).alloc (Nat.le_refl _) _))
  have HW0 := Lib.hid (show W0.heap.size = w.heap.size + 1 by rw [hW0]; simp)
  have K0 := Lib.hid (show Blk W0 w.heap.size 41 #[.int .i64 N, .slice ca cn cc] from hW0 ▸ Blk.new w _ _)
  clear hW0
  have q1 : W0.cell? ⟨w.heap.size, 0, none⟩ = some (.int .i64 N) := K0.out.cell 0
  have q2 : W0.cell? ⟨w.heap.size, 1, none⟩ = some (.slice ca cn cc) := K0.out.cell 1
  by_cases h1 : N < 0
  · have HE := Lib.hid (HR.out.trans (if_pos (.inl h1)))
    go_wp2
    go_ret
    exact ⟨by rw [HE.out]; rfl, HB0.out⟩
  by_cases h2 : 1048576 < N
  · have HE := Lib.hid (HR.out.trans (if_pos (.inr h2)))
    go_wp2
    go_ret
    exact ⟨by rw [HE.out]; rfl, HB0.out⟩
  have HR2 := Lib.hid (HR.out.trans (if_neg (by omega)))
  by_cases h3 : 1048576 < cn
  · have HE := Lib.hid (HR2.out.trans (if_pos h3))
    go_wp2
    go_ret
    exact ⟨by rw [HE.out]; rfl, HB0.out⟩
  have HR3 := Lib.hid (HR2.out.trans (if_neg h3))
  clear HR HR2
  go_wp2_with fail
  clear q1 q2
  go_loopw [3, 4] (fun c i wr => ∃ k n : Nat, k ≤ cn ∧ n ≤ 16777216 ∧ i = .int .i64 k ∧ c = .int .i64 n ∧ scan N (flat cs) 0 = scan N (flat (cs.drop k)) n ∧ Below W0.heap.size W0 wr) (fun _ i _ => cn - (intOf i).toNat)
  case atStart => exact ⟨0, 0, Nat.zero_le _, Nat.zero_le _, rfl, rfl, rfl, Below.refl _ _⟩
  case round =>
    obtain ⟨k, n, hk, hn, rfl, rfl, hf, hb⟩ := hrel
    have HF := Lib.hid hf
    have HB1 := Lib.hid hb
    have HB := Lib.hid (below_then HB0.out hb HB0.out.size)
    have q2 : wr.cell? ⟨w.heap.size, 1, none⟩ = some (.slice ca cn cc) := (K0.out.below hb).cell 1
    clear hf hb
    by_cases hlt : k < cn
    · have hkl : k < cs.length := by rw [← HL.out]; exact hlt
      have HBS := Lib.hid (Nat.le_trans HS.out HB.out.size)
      obtain ⟨b, off, ha, _, hc⟩ := RdV.at_ ((HCS.out.below (HB.out.mono HS.out)).rd.rd HBS.out) (enc_at (enc := CV.v) hkl)
      subst ha
      have HFD := Lib.hid (HF.out.trans (by rw [flat_drop hkl]))
      have HCL := Lib.hid (HCS.out.all _ (List.getElem_mem hkl))
      have HCA := Lib.hid (show ∀ W, Below W0.heap.size W0 W → W.cell? ⟨b, off + k, none⟩ = some (cs[k]'hkl).v from fun W hb => by
        obtain ⟨b', off', ha', _, hc'⟩ := RdV.at_ ((HCS.out.below ((below_then HB0.out hb HB0.out.size).mono HS.out)).rd.rd (Nat.le_trans HS.out (below_then HB0.out hb HB0.out.size).size)) (enc_at (enc := CV.v) hkl)
        cases ha'
        exact hc')
      obtain ⟨fr, hfr⟩ : ∃ fr, fr = flat (cs.drop (k + 1)) := ⟨_, rfl⟩
      rw [← hfr] at HFD
      have HFR := Lib.hid hfr
      clear hfr
      generalize cs[k]'hkl = y at *
      obtain ⟨Ay, ny, cy, ly⟩ := y
      dsimp only [CV.v] at hc HCA
      have HLY := Lib.hid (show ny = ly.length from HCL.out.ln)
      have hny : ny ≤ 9223372036854775807 := HCL.out.mx
      dsimp only at HFD
      clear hkl HF
      go_wp2_with fail
      clear hc q2
      go_loopw [3, 5] (fun c i wr2 => ∃ j n : Nat, j ≤ ny ∧ n ≤ 16777216 ∧ i = .int .i64 j ∧ c = .int .i64 n ∧ scan N (flat cs) 0 = scan N (ly.drop j ++ fr) n ∧ Below W0.heap.size W0 wr2) (fun _ i _ => ny - (intOf i).toNat)
      case atStart => exact ⟨0, n, Nat.zero_le _, hn, rfl, rfl, HFD.out, HB1.out⟩
      case round =>
        clear HFD HB1 HB HBS hn
        obtain ⟨j, n, hj, hn, rfl, rfl, hf, hb⟩ := hrel
        have HF := Lib.hid hf
        have HB1 := Lib.hid hb
        have HB := Lib.hid (below_then HB0.out hb HB0.out.size)
        have q1 : wr.cell? ⟨w.heap.size, 0, none⟩ = some (.int .i64 N) := (K0.out.below hb).cell 0
        have q2 : wr.cell? ⟨w.heap.size, 1, none⟩ = some (.slice (some ⟨b, off, none⟩) cn cc) := (K0.out.below hb).cell 1
        have hc := HCA.out wr hb
        clear hf hb
        by_cases hlt2 : j < ny
        · have hjl : j < ly.length := by rw [← HLY.out]; exact hlt2
          obtain ⟨b2, off2, ha2, _, hc2⟩ := RdV.at_ ((HCL.out.below (HB.out.mono HS.out)).rd.rd (Nat.le_trans HS.out HB.out.size)) (enc_at (enc := Value.int .i32) hjl)
          dsimp only at ha2
          subst ha2
          have HM3 := Lib.hid (show ly[j]'hjl ∈ ly from List.getElem_mem hjl)
          have hlb := HCL.out.lb _ HM3.out
          have HSC := Lib.hid (HF.out.trans (show scan N (ly.drop j ++ fr) n = if n = 16777216 then 3 else if badB N (ly[j]'hjl) then 4 else scan N (ly.drop (j + 1) ++ fr) (n + 1) by rw [List.drop_eq_getElem_cons hjl]; rfl))
          generalize ly[j]'hjl = x at *
          have HC := Lib.hid (fun W => rVar_any x hlb.1 hlb.2 W)
          clear hjl hlb
          by_cases hn2 : n = 16777216
          · have HE := Lib.hid (HR3.out.trans (HSC.out.trans (if_pos hn2)))
            have hn4 : (16777216 : Int) < (n : Int) + 1 := by omega
            have hn5 : (16777216 : Int) ≤ (n : Int) := by omega
            have e1 : wrap64 ((n : Int) + 1) = (n : Int) + 1 := IntWalk.wrap64_in _ (by omega)
            clear hn2 hn
            go_wp2
            go_ret
            exact ⟨by rw [HE.out]; rfl, HB.out⟩
          · have hn3 : n < 16777216 := by omega
            have HSC2 := Lib.hid (HSC.out.trans (if_neg hn2))
            have hn4 : decide ((16777216 : Int) < (n : Int) + 1) = false := decide_eq_false (by omega)
            have e1 : wrap64 ((n : Int) + 1) = (n : Int) + 1 := IntWalk.wrap64_in _ (by omega)
            have HN3 := Lib.hid hn3
            clear hn2 hn HSC hn3
            by_cases h0 : x = 0
            · have HE := Lib.hid (HR3.out.trans (HSC2.out.trans (if_pos (by rw [h0]; rfl))))
              subst h0
              go_wp2_with fail
              clear hn4 e1
              go_region
              all_goals go_wp2
              all_goals go_ret
              all_goals exact ⟨by rw [HE.out]; rfl, HB.out.drew⟩
            · have h0' : (x == 0) = false := by simpa using h0
              have HBD := Lib.hid (show badB N x = decide (N < varI x) by unfold badB; rw [h0']; rfl)
              rw [HBD.out] at HSC2
              clear h0
              generalize varI x = v at *
              by_cases h4 : N < v
              · have HE := Lib.hid (HR3.out.trans (HSC2.out.trans (if_pos (by rw [decide_eq_true h4]))))
                go_wp2_with fail
                clear hn4 e1
                go_quiet ((go_at_call 10; exact qs (HC.out _) ⟨_, rfl⟩))
                go_wp2
                go_ret
                exact ⟨by rw [HE.out]; rfl, belowN HB.out _⟩
              · have HE := Lib.hid (HSC2.out.trans (if_neg (by rw [decide_eq_false h4]; simp)))
                go_wp2_with fail
                clear hn4 e1
                go_quiet ((go_at_call 10; exact qs (HC.out _) ⟨_, rfl⟩))
                go_wp2
                go_roundw
                case rel => exact ⟨j + 1, n + 1, by omega, HN3.out, by go_num, by go_num, HE.out, belowN HB1.out _⟩
                case measure => simp [intOf]; omega
        · have HE := Lib.hid (HF.out.trans (by rw [List.drop_of_length_le (by rw [← HLY.out]; omega), List.nil_append, HFR.out]))
          have HKK := Lib.hid (show k + 1 ≤ cn by omega)
          clear hj
          go_wp2
          go_roundw
          case rel => exact ⟨k + 1, n, HKK.out, hn, by go_num, rfl, HE.out, HB1.out⟩
          case measure => simp [intOf]; omega
    · have HE := Lib.hid (HR3.out.trans (HF.out.trans (show scan N (flat (cs.drop k)) n = 0 by rw [List.drop_of_length_le (by rw [← HL.out]; omega)]; rfl)))
      go_wp2
      go_ret
      exact ⟨by rw [HE.out]; rfl, HB.out⟩
end Go.Proofs.Ytbgfijnadfeleaa.Tr
