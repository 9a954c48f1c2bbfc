/- Trail: SameClause, SameModel; Next and Move of a trail that is not there. Plain memory. -/
import Derived.Test.YtbbpebfgdcidjaaTe
import Derived.Test.YtbbpebfgdcidjaaTt
namespace Go.Proofs.Ytbbpebfgdcidjaa.Ta
open Go.RowKit Go.Proofs.Ytbbpebfgdcidjaa.Mem Go.Proofs.Ytbbpebfgdcidjaa.Sl Go.Proofs.Ytbbpebfgdcidjaa.Cl Go.Proofs.Ytbbpebfgdcidjaa.App Go.Shelf
open Go.Proofs.Ytbbpebfgdcidjaa.FnL (enc_at below_then)
set_option linter.unusedVariables false

theorem sameClause_any {w : World} (a : Option Addr) (n c : Nat) (m : List Int) (hl : n = m.length) (hr : RdV w a (LI m)) (b : Option Addr) (n' c' : Nat) (m' : List Int) (hl' : n' = m'.length) (hr' : RdV w b (LI m')) (hmx : n ≤ 1048576) (hmx' : n' ≤ 1048576) :
    Calls Try.prog 18 #[.slice a n c, .slice b n' c'] w fun e w' => e = .returned (.bool (m == m')) ∧ Below w.heap.size w w' := by
  have HM := Lib.hid hr
  have HM' := Lib.hid hr'
  have HL := Lib.hid hl
  have HL' := Lib.hid hl'
  clear hr hr' hl hl'
  by_cases hn : n = n'
  · subst hn
    go_enter Try.func18, Try.ntmps18
    go_wp2_with fail
    go_loopw [5] (fun i wr => ∃ k : Nat, k ≤ n ∧ i = .int .i64 k ∧ m.take k = m'.take k ∧ Below w.heap.size w wr) (fun i _ => n - (intOf i).toNat)
    case atStart => exact ⟨0, Nat.zero_le _, rfl, rfl, Below.refl _ _⟩
    case round =>
      obtain ⟨k, hk, rfl, hf, hb⟩ := hrel
      have HF := Lib.hid hf
      have HB := Lib.hid hb
      clear hf hb
      by_cases hlt : k < n
      · have hkl : k < m.length := by rw [← HL.out]; exact hlt
        have hkl' : k < m'.length := by rw [← HL'.out]; exact hlt
        obtain ⟨b1, o1, ha1, _, hc1⟩ := RdV.at_ (HM.out.below HB.out) (enc_at (enc := Value.int .i32) hkl)
        obtain ⟨b2, o2, ha2, _, hc2⟩ := RdV.at_ (HM'.out.below HB.out) (enc_at (enc := Value.int .i32) hkl')
        subst ha1 ha2
        have HT := Lib.hid (show m[k]'hkl = m'[k]'hkl' → m.take (k + 1) = m'.take (k + 1) from fun h => by rw [List.take_succ_eq_append_getElem hkl, List.take_succ_eq_append_getElem hkl', HF.out, h])
        have HNE := Lib.hid (show m[k]'hkl ≠ m'[k]'hkl' → (m == m') = false from fun h => by
          rw [beq_eq_false_iff_ne]
          rintro rfl
          exact h rfl)
        generalize m[k]'hkl = x at *
        generalize m'[k]'hkl' = y at *
        clear hkl hkl'
        by_cases hxy : x = y
        · have HE := Lib.hid (HT.out hxy)
          subst hxy
          go_wp2_with fail
          go_quiet (fail)
          go_wp2
          go_roundw
          case rel => exact ⟨k + 1, by omega, by go_num, HE.out, belowN HB.out _⟩
          case measure => simp [intOf]; omega
        · have HE := Lib.hid (HNE.out hxy)
          have hxy' : (x == y) = false := by simpa using hxy
          go_wp2_with fail
          go_quiet (fail)
          go_wp2
          go_ret
          exact ⟨by rw [HE.out]; rfl, belowN HB.out _⟩
      · have HE := Lib.hid (show (m == m') = true by
          have := HF.out
          rw [List.take_of_length_le (by rw [← HL.out]; omega), List.take_of_length_le (by rw [← HL'.out]; omega)] at this
          rw [this]; simp)
        go_wp2
        go_ret
        exact ⟨by rw [HE.out]; rfl, HB.out⟩
  · have HE := Lib.hid (show (m == m') = false by
      rw [beq_eq_false_iff_ne]
      rintro rfl
      exact hn (HL.out.trans HL'.out.symm))
    have hn' : (n : Int) ≠ n' := by omega
    go_enter Try.func18, Try.ntmps18
    go_wp2
    go_ret
    exact ⟨by rw [HE.out]; rfl, Below.refl _ _⟩
theorem sameModel_any {w : World} (a : Option Addr) (n c : Nat) (m : List Bool) (hl : n = m.length) (hr : RdV w a (m.map Value.bool)) (b : Option Addr) (n' c' : Nat) (m' : List Bool) (hl' : n' = m'.length) (hr' : RdV w b (m'.map Value.bool)) (hmx : n ≤ 1048576) (hmx' : n' ≤ 1048576) :
    Calls Try.prog 38 #[.slice a n c, .slice b n' c'] w fun e w' => e = .returned (.bool (m == m')) ∧ Below w.heap.size w w' := by
  have HM := Lib.hid hr
  have HM' := Lib.hid hr'
  have HL := Lib.hid hl
  have HL' := Lib.hid hl'
  clear hr hr' hl hl'
  by_cases hn : n = n'
  · subst hn
    go_enter Try.func38, Try.ntmps38
    go_wp2_with fail
    go_loopw [5] (fun i wr => ∃ k : Nat, k ≤ n ∧ i = .int .i64 k ∧ m.take k = m'.take k ∧ Below w.heap.size w wr) (fun i _ => n - (intOf i).toNat)
    case atStart => exact ⟨0, Nat.zero_le _, rfl, rfl, Below.refl _ _⟩
    case round =>
      obtain ⟨k, hk, rfl, hf, hb⟩ := hrel
      have HF := Lib.hid hf
      have HB := Lib.hid hb
      clear hf hb
      by_cases hlt : k < n
      · have hkl : k < m.length := by rw [← HL.out]; exact hlt
        have hkl' : k < m'.length := by rw [← HL'.out]; exact hlt
        obtain ⟨b1, o1, ha1, _, hc1⟩ := RdV.at_ (HM.out.below HB.out) (enc_at (enc := Value.bool) hkl)
        obtain ⟨b2, o2, ha2, _, hc2⟩ := RdV.at_ (HM'.out.below HB.out) (enc_at (enc := Value.bool) hkl')
        subst ha1 ha2
        have HT := Lib.hid (show m[k]'hkl = m'[k]'hkl' → m.take (k + 1) = m'.take (k + 1) from fun h => by rw [List.take_succ_eq_append_getElem hkl, List.take_succ_eq_append_getElem hkl', HF.out, h])
        have HNE := Lib.hid (show m[k]'hkl ≠ m'[k]'hkl' → (m == m') = false from fun h => by
          rw [beq_eq_false_iff_ne]
          rintro rfl
          exact h rfl)
        generalize m[k]'hkl = x at *
        generalize m'[k]'hkl' = y at *
        clear hkl hkl'
        by_cases hxy : x = y
        · have HE := Lib.hid (HT.out hxy)
          subst hxy
          go_wp2_with fail
          go_quiet (fail)
          go_wp2
          go_roundw
          case rel => exact ⟨k + 1, by omega, by go_num, HE.out, belowN HB.out _⟩
          case measure => simp [intOf]; omega
        · have HE := Lib.hid (HNE.out hxy)
          have hxy' : (x == y) = false := by simpa using hxy
          go_wp2_with fail
          go_quiet (fail)
          go_wp2
          go_ret
          exact ⟨by rw [HE.out]; rfl, belowN HB.out _⟩
      · have HE := Lib.hid (show (m == m') = true by
          have := HF.out
          rw [List.take_of_length_le (by rw [← HL.out]; omega), List.take_of_length_le (by rw [← HL'.out]; omega)] at this
          rw [this]; simp)
        go_wp2
        go_ret
        exact ⟨by rw [HE.out]; rfl, HB.out⟩
  · have HE := Lib.hid (show (m == m') = false by
      rw [beq_eq_false_iff_ne]
      rintro rfl
      exact hn (HL.out.trans HL'.out.symm))
    have hn' : (n : Int) ≠ n' := by omega
    go_enter Try.func38, Try.ntmps38
    go_wp2
    go_ret
    exact ⟨by rw [HE.out]; rfl, Below.refl _ _⟩
theorem next_nil (w : World) : Calls Try.prog 23 #[.pointer none] w fun e w' => e = .returned (.tuple #[.int .i32 0, .bool false]) ∧ Below w.heap.size w w' := by
  go_enter Try.func23, Try.ntmps23
  go_wp2_with fail
  go_quiet (fail)
  go_wp2
  go_ret2
  exact ⟨rfl, belowN (Below.refl _ _) _⟩
theorem move_nil (v : Value) (w : World) : Calls Try.prog 27 #[.pointer none, v] w fun e w' => e = .returned (.int .i64 1) ∧ Below w.heap.size w w' := by
  go_enter Try.func27, Try.ntmps27
  go_wp2_with fail
  go_ret
  exact ⟨rfl, Below.refl _ _⟩
end Go.Proofs.Ytbbpebfgdcidjaa.Ta
