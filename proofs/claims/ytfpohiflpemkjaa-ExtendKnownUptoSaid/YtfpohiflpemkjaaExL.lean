/- SameModel, few, works and ExtendPlays at whatever memory. -/
import Derived.Test.YtfpohiflpemkjaaExP
namespace Go.Proofs.Ytfpohiflpemkjaa.Ex
open Go.RowKit Go.Proofs.Ytfpohiflpemkjaa.Mem Go.Proofs.Ytfpohiflpemkjaa.Sl Go.Proofs.Ytfpohiflpemkjaa.Cl Go.Proofs.Ytfpohiflpemkjaa.App Go.Shelf
open Go.Proofs.Ytfpohiflpemkjaa.FnL (Pred enc_at below_then)
set_option linter.unusedVariables false

theorem sameModel_any {B : Nat} {w : World} (hB : B ≤ w.heap.size) (a : Option Addr) (n c : Nat) (m : List Bool) (hm : MdOk B w a n m) (b : Option Addr) (n' c' : Nat) (m' : List Bool) (hm' : MdOk B w b n' m') :
    Calls Try.prog 13 #[.slice a n c, .slice b n' c'] w fun e w' => e = .returned (.bool (m == m')) ∧ Below w.heap.size w w' := by
  have HM := Lib.hid hm
  have HM' := Lib.hid hm'
  have HL := Lib.hid hm.ln
  have HL' := Lib.hid hm'.ln
  have HS := Lib.hid hB
  have hmx := hm.mx
  have hmx' := hm'.mx
  clear hm hm' hB
  by_cases hn : n = n'
  · subst hn
    go_enter Try.func13, Try.ntmps13
    go_wp2_with fail
    go_loopw [5] (fun i wr => ∃ k : Nat, k ≤ n ∧ i = .int .i64 k ∧ m.take k = m'.take k ∧ Below w.heap.size w wr) (fun i _ => n - (intOf i).toNat)
    case atStart => exact ⟨0, Nat.zero_le _, rfl, rfl, Below.refl _ _⟩
    case round =>
      obtain ⟨k, hk, rfl, hf, hb⟩ := hrel
      have HF := Lib.hid hf
      have HB := Lib.hid hb
      clear hf hb
      by_cases hlt : k < n
      · have hkl : k < m.length := by rw [← HL.out]; exact hlt
        have hkl' : k < m'.length := by rw [← HL'.out]; exact hlt
        obtain ⟨b1, o1, ha1, _, hc1⟩ := RdV.at_ ((HM.out.below (HB.out.mono HS.out)).rd.rd (Nat.le_trans HS.out HB.out.size)) (enc_at (enc := Value.bool) hkl)
        obtain ⟨b2, o2, ha2, _, hc2⟩ := RdV.at_ ((HM'.out.below (HB.out.mono HS.out)).rd.rd (Nat.le_trans HS.out HB.out.size)) (enc_at (enc := Value.bool) hkl')
        subst ha1 ha2
        have HT := Lib.hid (show m[k]'hkl = m'[k]'hkl' → m.take (k + 1) = m'.take (k + 1) from fun h => by rw [List.take_succ_eq_append_getElem hkl, List.take_succ_eq_append_getElem hkl', HF.out, h])
        have HNE := Lib.hid (show m[k]'hkl ≠ m'[k]'hkl' → (m == m') = false from fun h => by
          rw [beq_eq_false_iff_ne]
          rintro rfl
          exact h rfl)
        generalize m[k]'hkl = x at *
        generalize m'[k]'hkl' = y at *
        clear hkl hkl'
        by_cases hxy : x = y
        · have HE := Lib.hid (HT.out hxy)
          subst hxy
          go_wp2_with fail
          go_quiet (fail)
          go_wp2
          go_roundw
          case rel => exact ⟨k + 1, by omega, by go_num, HE.out, belowN HB.out _⟩
          case measure => simp [intOf]; omega
        · have HE := Lib.hid (HNE.out hxy)
          have hxy' : (x == y) = false := by simpa using hxy
          go_wp2_with fail
          go_quiet (fail)
          go_wp2
          go_ret
          exact ⟨by rw [HE.out]; rfl, belowN HB.out _⟩
      · have HE := Lib.hid (show (m == m') = true by
          have := HF.out
          rw [List.take_of_length_le (by rw [← HL.out]; omega), List.take_of_length_le (by rw [← HL'.out]; omega)] at this
          rw [this]; simp)
        go_wp2
        go_ret
        exact ⟨by rw [HE.out]; rfl, HB.out⟩
  · have HE := Lib.hid (show (m == m') = false by
      rw [beq_eq_false_iff_ne]
      rintro rfl
      exact hn (HL.out.trans HL'.out.symm))
    have hn' : (n : Int) ≠ n' := by omega
    go_enter Try.func13, Try.ntmps13
    go_wp2
    go_ret
    exact ⟨by rw [HE.out]; rfl, Below.refl _ _⟩
def Bo (e : Ending) : Prop := ∃ b : Bool, e = .returned (.bool b)
theorem few_any {B : Nat} {w : World} (hB : B ≤ w.heap.size) (sa : Option Addr) (sn sc : Nat) (st : List WV) (hst : WtOk B w sa sn st) :
    Calls Try.prog 10 #[.slice sa sn sc] w fun e w' => Bo e ∧ Below w.heap.size w w' := by
  have HX := Lib.hid hst
  have HL := Lib.hid hst.ln
  have HS := Lib.hid hB
  have hmx := hst.mx
  clear hst hB
  go_enter Try.func10, Try.ntmps10
  go_wp2_with fail
  go_loopw [3, 4] (fun s i wr => ∃ (k : Nat) (x : Int), k ≤ sn ∧ k ≤ 61 ∧ i = .int .i64 k ∧ s = .int .i64 x ∧ Below w.heap.size w wr) (fun _ i _ => sn - (intOf i).toNat)
  case atStart => exact ⟨0, 0, Nat.zero_le _, Nat.zero_le _, rfl, rfl, Below.refl _ _⟩
  case round =>
    obtain ⟨k, x, hk, hk2, rfl, rfl, hb⟩ := hrel
    have HB := Lib.hid hb
    clear hb
    by_cases hlt : k < sn
    · by_cases h60 : k ≤ 60
      · have hkl : k < st.length := by rw [← HL.out]; exact hlt
        obtain ⟨b, off, ha, _, hc1, hc2⟩ := (HX.out.below (HB.out.mono HS.out)).at_ hkl
        subst ha
        generalize st[k]'hkl = y at *
        obtain ⟨⟨A1, n1, c1, l1⟩, ⟨A2, n2, c2, l2⟩⟩ := y
        dsimp only [CV.v] at hc1 hc2
        clear hkl
        go_wp2_with fail
        go_quiet (fail)
        go_wp2
        go_roundw
        case rel => exact ⟨k + 1, _, by omega, by omega, by go_num, rfl, belowN HB.out _⟩
        case measure => simp [intOf]; omega
      · go_wp2
        go_ret
        exact ⟨⟨_, rfl⟩, HB.out⟩
    · go_wp2
      all_goals go_ret
      all_goals exact ⟨⟨_, rfl⟩, HB.out⟩
end Go.Proofs.Ytfpohiflpemkjaa.Ex
