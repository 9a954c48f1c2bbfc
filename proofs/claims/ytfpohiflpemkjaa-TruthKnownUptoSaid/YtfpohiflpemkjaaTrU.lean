/- The statements' small, sameModel and works (works printed by wip/tools/gen_works03.py). -/
import Derived.Test.YtfpohiflpemkjaaTrO
namespace Go.Proofs.Ytfpohiflpemkjaa.Tr
open Go.RowKit Go.Proofs.Ytfpohiflpemkjaa.Mem Go.Proofs.Ytfpohiflpemkjaa.Sl Go.Proofs.Ytfpohiflpemkjaa.Cl Go.Proofs.Ytfpohiflpemkjaa.Mo Go.Shelf
open Go.Proofs.Ytfpohiflpemkjaa.FnL (Pred enc_at below_then)
set_option linter.unusedVariables false

theorem sameModel_any {B : Nat} {w : World} (hB : B ≤ w.heap.size) (a : Option Addr) (n c : Nat) (m : List Bool) (hm : MdOk B w a n m) (b : Option Addr) (n' c' : Nat) (m' : List Bool) (hm' : MdOk B w b n' m') :
    Calls Try.prog 26 #[.slice a n c, .slice b n' c'] w fun e w' => e = .returned (.bool (m == m')) ∧ Below w.heap.size w w' := by
  have HM := Lib.hid hm
  have HM' := Lib.hid hm'
  have HL := Lib.hid hm.ln
  have HL' := Lib.hid hm'.ln
  have HS := Lib.hid hB
  have hmx := hm.mx
  have hmx' := hm'.mx
  clear hm hm' hB
  by_cases hn : n = n'
  · subst hn
    go_enter Try.func26, Try.ntmps26
    go_wp2_with fail
    go_loopw [5] (fun i wr => ∃ k : Nat, k ≤ n ∧ i = .int .i64 k ∧ m.take k = m'.take k ∧ Below w.heap.size w wr) (fun i _ => n - (intOf i).toNat)
    case atStart => exact ⟨0, Nat.zero_le _, rfl, rfl, Below.refl _ _⟩
    case round =>
      obtain ⟨k, hk, rfl, hf, hb⟩ := hrel
      have HF := Lib.hid hf
      have HB := Lib.hid hb
      clear hf hb
      by_cases hlt : k < n
      · have hkl : k < m.length := by rw [← HL.out]; exact hlt
        have hkl' : k < m'.length := by rw [← HL'.out]; exact hlt
        obtain ⟨b1, o1, ha1, _, hc1⟩ := RdV.at_ ((HM.out.below (HB.out.mono HS.out)).rd.rd (Nat.le_trans HS.out HB.out.size)) (enc_at (enc := Value.bool) hkl)
        obtain ⟨b2, o2, ha2, _, hc2⟩ := RdV.at_ ((HM'.out.below (HB.out.mono HS.out)).rd.rd (Nat.le_trans HS.out HB.out.size)) (enc_at (enc := Value.bool) hkl')
        subst ha1 ha2
        have HT := Lib.hid (show m[k]'hkl = m'[k]'hkl' → m.take (k + 1) = m'.take (k + 1) from fun h => by rw [List.take_succ_eq_append_getElem hkl, List.take_succ_eq_append_getElem hkl', HF.out, h])
        have HNE := Lib.hid (show m[k]'hkl ≠ m'[k]'hkl' → (m == m') = false from fun h => by
          rw [beq_eq_false_iff_ne]
          rintro rfl
          exact h rfl)
        generalize m[k]'hkl = x at *
        generalize m'[k]'hkl' = y at *
        clear hkl hkl'
        by_cases hxy : x = y
        · have HE := Lib.hid (HT.out hxy)
          subst hxy
          go_wp2_with fail
          go_quiet (fail)
          go_wp2
          go_roundw
          case rel => exact ⟨k + 1, by omega, by go_num, HE.out, belowN HB.out _⟩
          case measure => simp [intOf]; omega
        · have HE := Lib.hid (HNE.out hxy)
          have hxy' : (x == y) = false := by simpa using hxy
          go_wp2_with fail
          go_quiet (fail)
          go_wp2
          go_ret
          exact ⟨by rw [HE.out]; rfl, belowN HB.out _⟩
      · have HE := Lib.hid (show (m == m') = true by
          have := HF.out
          rw [List.take_of_length_le (by rw [← HL.out]; omega), List.take_of_length_le (by rw [← HL'.out]; omega)] at this
          rw [this]; simp)
        go_wp2
        go_ret
        exact ⟨by rw [HE.out]; rfl, HB.out⟩
  · have HE := Lib.hid (show (m == m') = false by
      rw [beq_eq_false_iff_ne]
      rintro rfl
      exact hn (HL.out.trans HL'.out.symm))
    have hn' : (n : Int) ≠ n' := by omega
    go_enter Try.func26, Try.ntmps26
    go_wp2
    go_ret
    exact ⟨by rw [HE.out]; rfl, Below.refl _ _⟩
def SmallR (cn : Nat) (cs : List CV) (e : Ending) : Prop := ∃ b : Bool, e = .returned (.bool b) ∧ (b = true → cn ≤ 60 ∧ ((flat cs).length ≤ 16777216 → (flat cs).length ≤ 300))
theorem flat_take {cs : List CV} {k : Nat} (hk : k < cs.length) : (flat (cs.take (k + 1))).length = (flat (cs.take k)).length + (cs[k]'hk).l.length ∧ (flat (cs.take (k + 1))).length ≤ (flat cs).length := by
  constructor
  · rw [List.take_succ_eq_append_getElem hk]
    unfold flat
    rw [List.flatMap_append]
    simp
  · have := congrArg List.length (show flat cs = flat (cs.take (k + 1)) ++ flat (cs.drop (k + 1)) by unfold flat; rw [← List.flatMap_append, List.take_append_drop])
    rw [List.length_append] at this
    omega
theorem small_any {B : Nat} {w : World} (hB : B ≤ w.heap.size) (N : Int) (ca : Option Addr) (cn cc : Nat) (cs : List CV) (hcs : ClsOk B w ca cn cs) :
    Calls Try.prog 21 #[.agg #[.int .i64 N, .slice ca cn cc]] w fun e w' => SmallR cn cs e ∧ Below w.heap.size w w' := by
  have HX := Lib.hid hcs
  have HL := Lib.hid hcs.ln
  have HS := Lib.hid hB
  have hmx := hcs.mx
  clear hcs hB
  go_enter Try.func21, Try.ntmps21
  go_upto_region 1 with (fail)
  obtain ⟨W0, hW0⟩ : ∃ W0, W0 = w.alloc (.cells #[.int .i64 N, .slice ca cn cc] 34) := ⟨_, rfl⟩
  rw [← hW0]
  have HB0 := Lib.hid (show Below w.heap.size w W0 from hW0 ▸ ((Below.refl _ w).alloc (Nat.le_refl _) _))
  have K0 := Lib.hid (show Blk W0 w.heap.size 34 #[.int .i64 N, .slice ca cn cc] from hW0 ▸ Blk.new w _ _)
  clear hW0
  go_wp2_with fail
  go_loopw [3, 4] (fun s i wr => ∃ (k : Nat) (x : Int), k ≤ cn ∧ k ≤ 61 ∧ i = .int .i64 k ∧ s = .int .i64 x ∧ ((flat cs).length ≤ 16777216 → x = ((flat (cs.take k)).length : Int)) ∧ Below W0.heap.size W0 wr) (fun _ i _ => cn - (intOf i).toNat)
  case atStart => exact ⟨0, 0, Nat.zero_le _, Nat.zero_le _, rfl, rfl, fun _ => rfl, Below.refl _ _⟩
  case round =>
    obtain ⟨k, x, hk, hk2, rfl, rfl, hsum, hb⟩ := hrel
    have HSUM := Lib.hid hsum
    have HB := Lib.hid (below_then HB0.out hb HB0.out.size)
    have HBB := Lib.hid hb
    have q0 : wr.cell? ⟨w.heap.size, 0, none⟩ = some (.int .i64 N) := (K0.out.below hb).cell 0
    have q1 : wr.cell? ⟨w.heap.size, 1, none⟩ = some (.slice ca cn cc) := (K0.out.below hb).cell 1
    clear hb hsum
    by_cases hlt : k < cn
    · by_cases h60 : k ≤ 60
      · have hkl : k < cs.length := by rw [← HL.out]; exact hlt
        obtain ⟨b, off, ha, _, hc⟩ := RdV.at_ ((HX.out.below (HB.out.mono HS.out)).rd.rd (Nat.le_trans HS.out HB.out.size)) (enc_at (enc := CV.v) hkl)
        subst ha
        have HFT := Lib.hid (flat_take hkl)
        have HYL := Lib.hid (HX.out.all _ (List.getElem_mem hkl)).ln
        generalize cs[k]'hkl = y at *
        obtain ⟨A1, n1, c1, l1⟩ := y
        dsimp only [CV.v] at hc
        clear hkl
        have HNX := Lib.hid (show (flat cs).length ≤ 16777216 → wrap64 (x + n1) = ((flat (cs.take (k + 1))).length : Int) from fun h => by
          have h1 := HSUM.out h
          have h2 := HFT.out
          have h3 := HYL.out
          dsimp only at h2 h3
          rw [IntWalk.wrap64_in _ (by omega)]
          omega)
        go_wp2
        go_roundw
        case rel => exact ⟨k + 1, _, by omega, by omega, by go_num, rfl, HNX.out, HBB.out⟩
        case measure => simp [intOf]; omega
      · have h61 : ¬ (cn ≤ 60) := by omega
        have h62 : ¬ ((cn : Int) ≤ 60) := by omega
        go_wp2
        go_ret
        exact ⟨⟨false, rfl, fun h => by cases h⟩, HB.out⟩
    · by_cases h61 : cn ≤ 60
      · have h62 : (cn : Int) ≤ 60 := by omega
        have H61 := Lib.hid h61
        have HTL := Lib.hid (show cs.take k = cs by rw [List.take_of_length_le (by rw [← HL.out]; omega)])
        by_cases h300 : x ≤ 300
        · have HFIN := Lib.hid (show (flat cs).length ≤ 16777216 → (flat cs).length ≤ 300 from fun h => by
            have := HSUM.out h
            rw [HTL.out] at this
            omega)
          go_wp2
          all_goals go_ret
          all_goals exact ⟨⟨_, rfl, fun _ => ⟨H61.out, HFIN.out⟩⟩, HB.out⟩
        · go_wp2
          go_ret
          exact ⟨⟨false, rfl, fun h => by cases h⟩, HB.out⟩
      · have h62 : ¬ ((cn : Int) ≤ 60) := by omega
        go_wp2
        go_ret
        exact ⟨⟨false, rfl, fun h => by cases h⟩, HB.out⟩
end Go.Proofs.Ytfpohiflpemkjaa.Tr
