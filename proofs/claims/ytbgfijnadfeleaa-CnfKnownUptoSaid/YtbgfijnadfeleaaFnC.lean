/- slices.IndexFunc and slices.ContainsFunc at []api.Clause, at whatever predicate that may lay blocks and leaves all else as it was. No other condition. -/
import Derived.Test.YtbgfijnadfeleaaRows
import Derived.Test.YtbgfijnadfeleaaFnL
import Derived.WalkKit
import Derived.Lib.Hide
import Derived.Outline
import Derived.Shelf.Abstract
namespace Go.Proofs.Ytbgfijnadfeleaa.FnC
open Go.RowKit Go.Proofs.Ytbgfijnadfeleaa.Mem Go.Proofs.Ytbgfijnadfeleaa.Sl Go.Shelf
set_option linter.unusedVariables false

open Go.Proofs.Ytbgfijnadfeleaa.FnL (Pred firstAt firstAt_any enc_at below_then)
theorem indexFunc_any {α : Type} (enc : α → Value) (a : Option Addr) (cap f : Nat) (lb : Array Value) (p : α → Bool) (l : List α) (n : Nat) (hn : n = l.length) (hm : n ≤ 9223372036854775807) (w : World) (hr : RdV w a (l.map enc)) (hp : Pred enc f lb p l w) :
    Calls Try.prog 55 #[.slice a n cap, .func (.func f) #[] lb] w fun e w' => e = .returned (.int .i64 (firstAt p l 0)) ∧ Below w.heap.size w w' := by
  have HR := Lib.hid hr
  have HP := Lib.hid hp
  have HN := Lib.hid hn
  clear hr hp hn
  go_enter Try.func55, Try.ntmps55
  go_wp2_with fail
  go_loopw [5, 8] (fun x i wr => ∃ k : Nat, k ≤ n ∧ i = .int .i64 k ∧ firstAt p l 0 = firstAt p (l.drop k) k ∧ Below w.heap.size w wr) (fun _ i _ => n - (intOf i).toNat)
  case atStart => exact ⟨0, Nat.zero_le _, rfl, rfl, Below.refl _ _⟩
  case round =>
    obtain ⟨k, hk, rfl, hf, hB⟩ := hrel
    have HF := Lib.hid hf
    have HB := Lib.hid hB
    clear hf hB
    by_cases hlt : k < n
    · have hkl : k < l.length := by rw [← HN.out]; exact hlt
      obtain ⟨b, off, ha, hb, hc⟩ := RdV.at_ (RdV.below HR.out HB.out) (enc_at (enc := enc) hkl)
      subst ha
      have HS := Lib.hid (show l.drop k = l[k]'hkl :: l.drop (k + 1) from List.drop_eq_getElem_cons hkl)
      have HM := Lib.hid (show l[k]'hkl ∈ l from List.getElem_mem hkl)
      have eg : ∀ args w, (callFunc f args).run Try.prog w = .ok (.enter f args) w := HP.out.1
      generalize l[k]'hkl = x at *
      clear hkl
      have HC := Lib.hid (HP.out.2 x HM.out wr HB.out)
      generalize enc x = v at *
      go_wp2_with fail
      refine HC.out.mono ?_
      rintro e w1 ⟨rfl, hb1⟩
      have HB1 := Lib.hid (below_then HB.out hb1 HB.out.size)
      clear hb1 hc hb
      have HX := Lib.hid (show firstAt p (l.drop k) k = if p x then (k : Int) else firstAt p (l.drop (k + 1)) ((k : Int) + 1) by rw [HS.out]; rfl)
      cases hpx : p x with
      | true =>
        have HE := Lib.hid (show firstAt p l 0 = k by rw [HF.out, HX.out, hpx]; rfl)
        clear hpx
        go_wp2
        go_ret
        exact ⟨by rw [HE.out]; rfl, HB1.out⟩
      | false =>
        have HE := Lib.hid (show firstAt p l 0 = firstAt p (l.drop (k + 1)) ((k : Int) + 1) by rw [HF.out, HX.out, hpx]; rfl)
        clear hpx
        go_wp2
        go_roundw
        case rel => exact ⟨k + 1, by omega, by go_num, by rw [HE.out]; rfl, HB1.out⟩
        case measure => simp [intOf]; omega
    · have HE := Lib.hid (show firstAt p l 0 = -1 by
        rw [HF.out, List.drop_of_length_le (by rw [← HN.out]; omega)]; rfl)
      go_wp2
      go_ret
      exact ⟨by rw [HE.out]; rfl, HB.out⟩
theorem containsFunc_any {α : Type} (enc : α → Value) (a : Option Addr) (cap f : Nat) (lb : Array Value) (p : α → Bool) (l : List α) (n : Nat) (hn : n = l.length) (hm : n ≤ 9223372036854775807) (w : World) (hr : RdV w a (l.map enc)) (hp : Pred enc f lb p l w) :
    Calls Try.prog 44 #[.slice a n cap, .func (.func f) #[] lb] w fun e w' => e = .returned (.bool (l.any p)) ∧ Below w.heap.size w w' := by
  have HI := Lib.hid (indexFunc_any enc a cap f lb p l n hn hm w hr hp)
  have HA := Lib.hid (firstAt_any p l 0 (Int.le_refl 0))
  clear hr hp hn
  go_enter Try.func44, Try.ntmps44
  go_wp2_with fail
  refine HI.out.mono ?_
  rintro e w1 ⟨rfl, hb1⟩
  go_wp2
  go_ret
  exact ⟨by rw [← HA.out]; rfl, hb1⟩
end Go.Proofs.Ytbgfijnadfeleaa.FnC
