/- slices.IndexFunc and slices.ContainsFunc at []Lit, at whatever predicate that may lay blocks and leaves all else as it was. No other condition. -/
import Derived.Test.YtcmicmghnmklnaaRows
import Derived.Test.YtcmicmghnmklnaaSl
import Derived.WalkKit
import Derived.Lib.Hide
import Derived.Outline
import Derived.Shelf.Abstract
namespace Go.Proofs.Ytcmicmghnmklnaa.Sl
open Go.RowKit Go.Proofs.Ytcmicmghnmklnaa.Mem Go.Shelf
set_option linter.unusedVariables false

theorem below_then {B : Nat} {a b c : World} (h : Below B a b) (k : Below b.heap.size b c) (hB : B ≤ b.heap.size) : Below B a c :=
  h.trans ⟨k.os, k.tape, k.output, k.size, fun i hi => k.block i (Nat.lt_of_lt_of_le hi hB)⟩
/-- What a predicate over literals is asked: in every later world it answers p, and leaves what was there alone. -/
def Pred (f : Nat) (lb : Array Value) (p : Int → Bool) (l : List Int) (w : World) : Prop :=
  Enters Try.prog f ∧ ∀ x, x ∈ l → ∀ W, Below w.heap.size w W → Calls Try.prog f (#[.int .i32 x] ++ lb) W fun e w' => e = .returned (.bool (p x)) ∧ Below W.heap.size W w'
def firstAt (p : Int → Bool) : List Int → Int → Int
  | [], _ => -1
  | x :: xs, i => if p x then i else firstAt p xs (i + 1)
theorem firstAt_any (p : Int → Bool) : ∀ (l : List Int) (i : Int), 0 ≤ i → decide (0 ≤ firstAt p l i) = l.any p
  | [], i, _ => by simp [firstAt]
  | x :: xs, i, h => by
    unfold firstAt
    cases hx : p x with
    | true => simp [hx, h]
    | false => simp only [Bool.false_eq_true, if_false, List.any_cons, hx, Bool.false_or]; exact firstAt_any p xs (i + 1) (by omega)
theorem indexFunc_lit (a : Option Addr) (cap f : Nat) (lb : Array Value) (p : Int → Bool) (l : List Int) (n : Nat) (hn : n = l.length) (hm : n ≤ 140737488351232) (w : World) (hr : RdV w a (l.map (Value.int .i32))) (hp : Pred f lb p l w) :
    Calls Try.prog 49 #[.slice a n cap, .func (.func f) #[] lb] w fun e w' => e = .returned (.int .i64 (firstAt p l 0)) ∧ Below w.heap.size w w' := by
  have HR := Lib.hid hr
  have HP := Lib.hid hp
  have HN := Lib.hid hn
  clear hr hp hn
  go_enter Try.func49, Try.ntmps49
  go_wp2_with fail
  go_loopw [5, 8] (fun x i wr => ∃ k : Nat, k ≤ n ∧ i = .int .i64 k ∧ firstAt p l 0 = firstAt p (l.drop k) k ∧ Below w.heap.size w wr) (fun _ i _ => n - (intOf i).toNat)
  case atStart => exact ⟨0, Nat.zero_le _, rfl, rfl, Below.refl _ _⟩
  case round =>
    obtain ⟨k, hk, rfl, hf, hB⟩ := hrel
    have HF := Lib.hid hf
    have HB := Lib.hid hB
    clear hf hB
    by_cases hlt : k < n
    · have hkl : k < l.length := by rw [← HN.out]; exact hlt
      obtain ⟨b, off, ha, hb, hc⟩ := RdV.at_ (RdV.below HR.out HB.out) (ints_at (k := .i32) hkl)
      subst ha
      have HS := Lib.hid (show l.drop k = l.getD k 0 :: l.drop (k + 1) by
        rw [List.drop_eq_getElem_cons hkl]; simp [List.getD_eq_getElem?_getD, hkl])
      have HM := Lib.hid (show l.getD k 0 ∈ l by simp [List.getD_eq_getElem?_getD, hkl])
      have eg : ∀ args w, (callFunc f args).run Try.prog w = .ok (.enter f args) w := HP.out.1
      generalize l.getD k 0 = x at *
      clear hkl
      go_wp2_with fail
      refine (HP.out.2 x HM.out wr HB.out).mono ?_
      rintro e w1 ⟨rfl, hb1⟩
      have HB1 := Lib.hid (below_then HB.out hb1 HB.out.size)
      clear hb1 hc hb
      have HX := Lib.hid (show firstAt p (l.drop k) k = if p x then (k : Int) else firstAt p (l.drop (k + 1)) ((k : Int) + 1) by rw [HS.out]; rfl)
      cases hpx : p x with
      | true =>
        have HE := Lib.hid (show firstAt p l 0 = k by rw [HF.out, HX.out, hpx]; rfl)
        clear hpx
        go_wp2
        go_ret
        exact ⟨by rw [HE.out]; rfl, HB1.out⟩
      | false =>
        have HE := Lib.hid (show firstAt p l 0 = firstAt p (l.drop (k + 1)) ((k : Int) + 1) by rw [HF.out, HX.out, hpx]; rfl)
        clear hpx
        go_wp2
        go_roundw
        case rel => exact ⟨k + 1, by omega, by go_num, by rw [HE.out]; rfl, HB1.out⟩
        case measure => simp [intOf]; omega
    · have HE := Lib.hid (show firstAt p l 0 = -1 by
        rw [HF.out, List.drop_of_length_le (by rw [← HN.out]; omega)]; rfl)
      go_wp2
      go_ret
      exact ⟨by rw [HE.out]; rfl, HB.out⟩
theorem containsFunc_lit (a : Option Addr) (cap f : Nat) (lb : Array Value) (p : Int → Bool) (l : List Int) (n : Nat) (hn : n = l.length) (hm : n ≤ 140737488351232) (w : World) (hr : RdV w a (l.map (Value.int .i32))) (hp : Pred f lb p l w) :
    Calls Try.prog 41 #[.slice a n cap, .func (.func f) #[] lb] w fun e w' => e = .returned (.bool (l.any p)) ∧ Below w.heap.size w w' := by
  have HI := Lib.hid (indexFunc_lit a cap f lb p l n hn hm w hr hp)
  have HA := Lib.hid (firstAt_any p l 0 (Int.le_refl 0))
  clear hr hp hn
  go_enter Try.func41, Try.ntmps41
  go_wp2_with fail
  refine HI.out.mono ?_
  rintro e w1 ⟨rfl, hb1⟩
  go_wp2
  go_ret
  exact ⟨by rw [← HA.out]; rfl, hb1⟩
end Go.Proofs.Ytcmicmghnmklnaa.Sl
