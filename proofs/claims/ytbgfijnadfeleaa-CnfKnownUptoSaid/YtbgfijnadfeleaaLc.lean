/- CnfValues: the walk. Condition: the memory. -/
import Derived.Test.YtbgfijnadfeleaaLb
namespace Go.Proofs.Ytbgfijnadfeleaa.La
open Go.RowKit Go.Proofs.Ytbgfijnadfeleaa.Mem Go.Proofs.Ytbgfijnadfeleaa.Sl Go.Proofs.Ytbgfijnadfeleaa.Cl Go.Proofs.Ytbgfijnadfeleaa.App Go.Proofs.Ytbgfijnadfeleaa.Cm Go.Shelf
open Go.Proofs.Ytbgfijnadfeleaa.FnL (Pred enc_at below_then)
set_option linter.unusedVariables false

theorem values_any {B : Nat} {w : World} (hB : B ≤ w.heap.size) (x : CV) (hx : ClOk B w x) (a : Option Addr) (mn mc : Nat) (m : List Bool) (hm : MdOk B w a mn m) :
    Calls Try.prog 3 #[x.v, .slice a mn mc] w fun e w' => e = .returned (.bool true) ∧ Below w.heap.size w w' := by
  have HX := Lib.hid hx
  have HM := Lib.hid hm
  have HS := Lib.hid hB
  have HV := Lib.hid (fun W (hb : Below w.heap.size w W) => Value_any (c := mc) (w := W) (Nat.le_trans hB hb.size) (hm.below (hb.mono hB)) x (hx.below (hb.mono hB)))
  have HRV := Lib.hid (fun W (hb : Below w.heap.size w W) => rValue_any (c := mc) (w := W) (Nat.le_trans hB hb.size) (hm.below (hb.mono hB)) x (hx.below (hb.mono hB)))
  obtain ⟨A, N, C, l⟩ := x
  have HL := Lib.hid (show N = l.length from hx.ln)
  have hmx := hx.mx
  dsimp only at hmx
  clear hm hx hB
  dsimp only [CV.v] at HV HRV ⊢
  by_cases p1 : 3000 < N
  · go_enter Try.func3, Try.ntmps3
    go_wp2
    go_ret
    exact ⟨rfl, Below.refl _ _⟩
  · by_cases p2 : 3000 < mn
    · go_enter Try.func3, Try.ntmps3
      go_wp2
      go_ret
      exact ⟨rfl, Below.refl _ _⟩
    · go_enter Try.func3, Try.ntmps3
      go_wp2_with fail
      go_loopw [5] (fun i wr => ∃ k : Nat, k ≤ N ∧ i = .int .i64 k ∧ Below w.heap.size w wr) (fun i _ => N - (intOf i).toNat)
      case atStart => exact ⟨0, Nat.zero_le _, rfl, Below.refl _ _⟩
      case round =>
        obtain ⟨k, hk, rfl, hb⟩ := hrel
        have HB := Lib.hid hb
        clear hb
        by_cases hlt : k < N
        · have hkl : k < l.length := by rw [← HL.out]; exact hlt
          obtain ⟨b, off, ha, hbl, hc⟩ := RdV.at_ ((HX.out.below (HB.out.mono HS.out)).rd.rd (Nat.le_trans HS.out HB.out.size)) (enc_at (enc := Value.int .i32) hkl)
          dsimp only at ha
          subst ha
          have hlb := HX.out.lb _ (List.getElem_mem hkl)
          generalize l[k]'hkl = y at *
          have HC1 := Lib.hid (Var_any y hlb.1 hlb.2)
          have HC2 := Lib.hid (rVar_any y hlb.1 hlb.2)
          clear hkl hbl hlb
          generalize varI y = v at *
          go_wp2_with fail
          go_quiet (first | (go_at_call 9; exact qs (HC1.out _) ⟨_, rfl⟩) | (go_at_call 10; exact qs (HC2.out _) ⟨_, rfl⟩))
          go_wp2
          go_roundw
          case rel => exact ⟨k + 1, by omega, by go_num, belowN HB.out _⟩
          case measure => simp [intOf]; omega
        · have HC := Lib.hid (HV.out wr HB.out)
          go_wp2_with fail
          refine HC.out.mono ?_
          rintro e w1 ⟨rfl, hb1⟩
          have HB1 := Lib.hid (below_then HB.out hb1 HB.out.size)
          have HC2 := Lib.hid (HRV.out w1 HB1.out)
          clear hb1 HC
          generalize valB m l = r at *
          go_wp2_with fail
          refine HC2.out.mono ?_
          rintro e w2 ⟨rfl, hb2⟩
          have HB2 := Lib.hid (below_then HB1.out hb2 HB1.out.size)
          have HC3 := Lib.hid (works_any w2)
          clear hb2 HC2
          go_wp2_with fail
          refine HC3.out.mono ?_
          rintro e w3 ⟨rfl, hb3⟩
          have HB3 := Lib.hid (below_then HB2.out hb3 HB2.out.size)
          clear hb3
          go_wp2
          go_ret
          exact ⟨rfl, HB3.out⟩
end Go.Proofs.Ytbgfijnadfeleaa.La
