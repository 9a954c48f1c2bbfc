/- The statements' same, own and size. Conditions: the memory, at most a million literals. -/
import Derived.Test.YtbgfijnadfeleaaCz
import Derived.Test.YtbgfijnadfeleaaLit
namespace Go.Proofs.Ytbgfijnadfeleaa.La
open Go.RowKit Go.Proofs.Ytbgfijnadfeleaa.Mem Go.Proofs.Ytbgfijnadfeleaa.Sl Go.Proofs.Ytbgfijnadfeleaa.Cl Go.Proofs.Ytbgfijnadfeleaa.App Go.Proofs.Ytbgfijnadfeleaa.Cm Go.Shelf
open Go.Proofs.Ytbgfijnadfeleaa.Ca (wpApp)
open Go.Proofs.Ytbgfijnadfeleaa.FnL (Pred enc_at below_then)
set_option linter.unusedVariables false

def eqB (l l' : List Int) : Bool := decide (l = l')
theorem same_any {w : World} (a : Option Addr) (n c : Nat) (l : List Int) (hn : n = l.length) (hm : n ≤ 9223372036854775807) (hr : RdV w a (LI l)) (b : Option Addr) (n' c' : Nat) (l' : List Int) (hn' : n' = l'.length) (hm' : n' ≤ 9223372036854775807) (hr' : RdV w b (LI l')) :
    Calls Try.prog 19 #[.slice a n c, .slice b n' c'] w fun e w' => e = .returned (.bool (eqB l l')) ∧ Below w.heap.size w w' := by
  have HM := Lib.hid hr
  have HM' := Lib.hid hr'
  have HL := Lib.hid hn
  have HL' := Lib.hid hn'
  have hmx := hm
  have hmx' := hm'
  clear hm hm' hn hn' hr hr'
  by_cases hn : n = n'
  · subst hn
    go_enter Try.func19, Try.ntmps19
    go_wp2_with fail
    go_loopw [5] (fun i wr => ∃ k : Nat, k ≤ n ∧ i = .int .i64 k ∧ l.take k = l'.take k ∧ Below w.heap.size w wr) (fun i _ => n - (intOf i).toNat)
    case atStart => exact ⟨0, Nat.zero_le _, rfl, rfl, Below.refl _ _⟩
    case round =>
      obtain ⟨k, hk, rfl, hf, hb⟩ := hrel
      have HF := Lib.hid hf
      have HB := Lib.hid hb
      clear hf hb
      by_cases hlt : k < n
      · have hkl : k < l.length := by rw [← HL.out]; exact hlt
        have hkl' : k < l'.length := by rw [← HL'.out]; exact hlt
        obtain ⟨b1, o1, ha1, _, hc1⟩ := RdV.at_ (HM.out.below HB.out) (enc_at (enc := Value.int .i32) hkl)
        obtain ⟨b2, o2, ha2, _, hc2⟩ := RdV.at_ (HM'.out.below HB.out) (enc_at (enc := Value.int .i32) hkl')
        subst ha1 ha2
        have HT := Lib.hid (show l[k]'hkl = l'[k]'hkl' → l.take (k + 1) = l'.take (k + 1) from fun h => by rw [List.take_succ_eq_append_getElem hkl, List.take_succ_eq_append_getElem hkl', HF.out, h])
        have HNE := Lib.hid (show l[k]'hkl ≠ l'[k]'hkl' → eqB l l' = false from fun h => decide_eq_false (by
          rintro rfl
          exact h rfl))
        generalize l[k]'hkl = x at *
        generalize l'[k]'hkl' = y at *
        clear hkl hkl'
        by_cases hxy : x = y
        · have HE := Lib.hid (HT.out hxy)
          subst hxy
          go_wp2_with fail
          go_quiet (fail)
          go_wp2
          go_roundw
          case rel => exact ⟨k + 1, by omega, by go_num, HE.out, belowN HB.out _⟩
          case measure => simp [intOf]; omega
        · have HE := Lib.hid (HNE.out hxy)
          have hxy' : (x == y) = false := by simpa using hxy
          go_wp2_with fail
          go_quiet (fail)
          go_wp2
          go_ret
          exact ⟨by rw [HE.out]; rfl, belowN HB.out _⟩
      · have HE := Lib.hid (show eqB l l' = true from decide_eq_true (by
          have := HF.out
          rwa [List.take_of_length_le (by rw [← HL.out]; omega), List.take_of_length_le (by rw [← HL'.out]; omega)] at this))
        go_wp2
        go_ret
        exact ⟨by rw [HE.out]; rfl, HB.out⟩
  · have HE := Lib.hid (show eqB l l' = false from decide_eq_false (by
      rintro rfl
      exact hn (HL.out.trans HL'.out.symm)))
    have hx : ((n : Int) == (n' : Int)) = false := beq_eq_false_iff_ne.2 (by omega)
    go_enter Try.func19, Try.ntmps19
    go_wp2
    go_ret
    exact ⟨by rw [HE.out]; rfl, Below.refl _ _⟩
theorem own_any {w : World} (a : Option Addr) (n c : Nat) (l : List Int) (hn : n = l.length) (hr : RdV w a (LI l)) (hnil : a = none → c = 0) (hmn : n ≤ 1000000) :
    Calls Try.prog 14 #[.slice a n c] w fun e w' => ∃ A c', e = .returned (.slice A n c') ∧ Own w' w.heap.size 27 A n c' (LI l) ∧ Below w.heap.size w w' := by
  have HR := Lib.hid hr
  have HN := Lib.hid hn
  have HNIL := Lib.hid hnil
  clear hr hn hnil
  go_enter Try.func14, Try.ntmps14
  go_wp2_with (at_builtin; refine wpApp rfl _ _ rfl w.heap.size none 0 0 [] rfl (Own.nil _ _ _) a n c l rfl HN.out HR.out HNIL.out (by omega) (Nat.le_refl _) n (Nat.zero_add n) ?_; intro A1 d1 w1 hO1 hb1 hg1; have HO1 := Lib.hid hO1; have HBX1 := Lib.hid hb1; clear hO1 hb1 hg1)
  go_ret
  exact ⟨A1, d1, rfl, HO1.out, HBX1.out⟩
end Go.Proofs.Ytbgfijnadfeleaa.La
