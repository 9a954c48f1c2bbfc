/- Trail: of, Level, Reason, Place, Value: what they answer. Conditions: the bounds TOk, the memory. -/
import Derived.Test.YtbbpebfgdcidjaaTp
namespace Go.Proofs.Ytbbpebfgdcidjaa.Ta
open Go.RowKit Go.Proofs.Ytbbpebfgdcidjaa.Mem Go.Proofs.Ytbbpebfgdcidjaa.Sl Go.Proofs.Ytbbpebfgdcidjaa.Cl Go.Proofs.Ytbbpebfgdcidjaa.App Go.Shelf
open Go.Proofs.Ytbbpebfgdcidjaa.FnL (enc_at below_then)
set_option linter.unusedVariables false

theorem thePlace_any (a b c : Int) (h0 : 0 ≤ a) (h1 : a ≤ 1000000) (w : World) : Calls Try.prog 35 #[.agg #[.int .i64 a, .int .i64 b, .int .i64 c]] w fun e w' => e = .returned (.int .i64 (a - 1)) ∧ Below w.heap.size w w' := by
  have e1 : IntKind.i64.wrap (a - 1) = a - 1 := IntWalk.i64_in _ (by omega)
  have HB := Lib.hid (show Below w.heap.size w (w.alloc (.cells #[.int .i64 a, .int .i64 b, .int .i64 c] 67)) from (Below.refl _ _).alloc (Nat.le_refl _) _)
  go_enter Try.func35, Try.ntmps35
  go_wp2
  go_ret
  exact ⟨by first | rfl | simp_all, HB.out⟩
theorem theLevel_any (a b c : Int) (w : World) : Calls Try.prog 36 #[.agg #[.int .i64 a, .int .i64 b, .int .i64 c]] w fun e w' => e = .returned (.int .i64 b) ∧ Below w.heap.size w w' := by
  have HB := Lib.hid (show Below w.heap.size w (w.alloc (.cells #[.int .i64 a, .int .i64 b, .int .i64 c] 67)) from (Below.refl _ _).alloc (Nat.le_refl _) _)
  go_enter Try.func36, Try.ntmps36
  go_wp2
  go_ret
  exact ⟨by first | rfl | simp_all, HB.out⟩
theorem theReason_any (a b c : Int) (w : World) : Calls Try.prog 50 #[.agg #[.int .i64 a, .int .i64 b, .int .i64 c]] w fun e w' => e = .returned (.int .i64 c) ∧ Below w.heap.size w w' := by
  have HB := Lib.hid (show Below w.heap.size w (w.alloc (.cells #[.int .i64 a, .int .i64 b, .int .i64 c] 67)) from (Below.refl _ _).alloc (Nat.le_refl _) _)
  go_enter Try.func50, Try.ntmps50
  go_wp2
  go_ret
  exact ⟨by first | rfl | simp_all, HB.out⟩
theorem of_some {w : World} (p : Value) (v : Int) (f : Nat) (hf : Enters Try.prog f) (a b c x : Int) (hs : Calls Try.prog 33 #[p, .int .i64 v] w fun e w' => e = .returned (.tuple #[.agg #[.int .i64 a, .int .i64 b, .int .i64 c], .bool true]) ∧ Below w.heap.size w w')
    (hc : ∀ W, Calls Try.prog f #[.agg #[.int .i64 a, .int .i64 b, .int .i64 c]] W fun e w' => e = .returned (.int .i64 x) ∧ Below W.heap.size W w') :
    Calls Try.prog 34 #[p, .int .i64 v, .func (.func f) #[] #[]] w fun e w' => e = .returned (.int .i64 x) ∧ Below w.heap.size w w' := by
  have HS := Lib.hid hs
  have HC := Lib.hid hc
  have eg : ∀ args w, (callFunc f args).run Try.prog w = .ok (.enter f args) w := hf
  clear hs hc hf
  go_enter Try.func34, Try.ntmps34
  go_wp2_with fail
  refine HS.out.mono ?_
  rintro e w1 ⟨rfl, hb1⟩
  have HB1 := Lib.hid hb1
  clear hb1 HS
  go_wp2_with fail
  refine (HC.out _).mono ?_
  rintro e w2 ⟨rfl, hb2⟩
  have HB2 := Lib.hid (HB1.out.trans ((show Below w1.heap.size w1 w2 from by
    refine Below.trans ?_ (hb2.mono ?_)
    · repeat (first | exact Below.refl _ _ | refine Below.setCell ?_ (by simp) _ | refine Below.alloc ?_ (by simp) _)
    · simp).mono HB1.out.size))
  clear hb2
  go_wp2
  go_ret
  exact ⟨rfl, HB2.out⟩
theorem of_none {w : World} (p : Value) (v : Int) (f : Nat) (a b c : Int) (hs : Calls Try.prog 33 #[p, .int .i64 v] w fun e w' => e = .returned (.tuple #[.agg #[.int .i64 a, .int .i64 b, .int .i64 c], .bool false]) ∧ Below w.heap.size w w') :
    Calls Try.prog 34 #[p, .int .i64 v, .func (.func f) #[] #[]] w fun e w' => e = .returned (.int .i64 (-1)) ∧ Below w.heap.size w w' := by
  have HS := Lib.hid hs
  clear hs
  go_enter Try.func34, Try.ntmps34
  go_wp2_with fail
  refine HS.out.mono ?_
  rintro e w1 ⟨rfl, hb1⟩
  have HB1 := Lib.hid hb1
  clear hb1 HS
  go_wp2
  go_ret
  refine ⟨rfl, HB1.out.trans (Below.mono ?_ HB1.out.size)⟩
  repeat (first | exact Below.refl _ _ | refine Below.setCell ?_ (by simp) _ | refine Below.alloc ?_ (by simp) _)
def placeM (m : TM) (v : Int) : Int := if hasM m v then (spotM m v).1 - 1 else -1
def levelM (m : TM) (v : Int) : Int := if hasM m v then (spotM m v).2.1 else -1
def reasonM (m : TM) (v : Int) : Int := if hasM m v then (spotM m v).2.2 else -1
end Go.Proofs.Ytbbpebfgdcidjaa.Ta
