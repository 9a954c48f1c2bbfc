/- Literals, clauses and models in memory; cnf.Var and the document's Var: what they answer. No condition but the memory. -/
import Derived.Test.YtbbpebfgdcidjaaFnB
import Derived.Laws.EntriesVeiled
namespace Go.Proofs.Ytbbpebfgdcidjaa.Cl
open Go.RowKit Go.Proofs.Ytbbpebfgdcidjaa.Mem Go.Proofs.Ytbbpebfgdcidjaa.Sl Go.Shelf
open Go.Proofs.Ytbbpebfgdcidjaa.FnL (enc_at below_then)
set_option linter.unusedVariables false

structure CV where
  A : Option Addr
  n : Nat
  c : Nat
  l : List Int
def CV.v (x : CV) : Value := .slice x.A x.n x.c
/-- A clause that can be read below B. -/
structure ClOk (B : Nat) (w : World) (x : CV) : Prop where
  ln : x.n = x.l.length
  mx : x.n ≤ 9223372036854775807
  rd : RdB B w x.A (x.l.map (Value.int .i32))
  lb : ∀ y, y ∈ x.l → -2147483648 ≤ y ∧ y ≤ 2147483647
theorem ClOk.below {B : Nat} {w w' : World} {x : CV} (h : ClOk B w x) (hb : Below B w w') : ClOk B w' x := ⟨h.ln, h.mx, h.rd.below hb, h.lb⟩
theorem RdB.up {B B' : Nat} {w : World} {a : Option Addr} {vs : List Value} (h : RdB B w a vs) (hB : B ≤ B') : RdB B' w a vs := fun hp => by
  obtain ⟨b, off, rfl, hx, hc⟩ := h hp
  exact ⟨b, off, rfl, by omega, hc⟩
theorem ClOk.up {B B' : Nat} {w : World} {x : CV} (h : ClOk B w x) (hB : B ≤ B') : ClOk B' w x := ⟨h.ln, h.mx, RdB.up h.rd hB, h.lb⟩
/-- A model that can be read: its slice's value. -/
structure MdOk (B : Nat) (w : World) (a : Option Addr) (n : Nat) (m : List Bool) : Prop where
  ln : n = m.length
  mx : n ≤ 9223372036854775807
  rd : RdB B w a (m.map Value.bool)
theorem MdOk.below {B : Nat} {w w' : World} {a : Option Addr} {n : Nat} {m : List Bool} (h : MdOk B w a n m) (hb : Below B w w') : MdOk B w' a n m := ⟨h.ln, h.mx, h.rd.below hb⟩

theorem MdOk.up {B B' : Nat} {w : World} {a : Option Addr} {n : Nat} {m : List Bool} (h : MdOk B w a n m) (hB : B ≤ B') : MdOk B' w a n m := ⟨h.ln, h.mx, RdB.up h.rd hB⟩

def varI (x : Int) : Int := if x < 0 then -x else x
theorem varI_bd {x : Int} (h0 : -2147483648 ≤ x) (h1 : x ≤ 2147483647) : 0 ≤ varI x ∧ varI x ≤ 2147483648 := by
  unfold varI; split <;> omega

theorem var_any (x : Int) (h0 : -2147483648 ≤ x) (h1 : x ≤ 2147483647) (w : World) :
    Calls Try.prog 32 #[.int .i32 x] w fun e w' => e = .returned (.int .i64 (varI x)) ∧ w = w' := by
  have HE := Lib.hid (show varI x = if x < 0 then -x else x from rfl)
  have e1 : IntKind.i64.wrap x = x := IntWalk.i64_in _ (by omega)
  have e2 : IntKind.i64.wrap (-x) = -x := IntWalk.i64_in _ (by omega)
  by_cases hx : x < 0
  · have HF := Lib.hid (show varI x = -x by rw [HE.out, if_pos hx])
    go_enter Try.func32, Try.ntmps32
    go_wp2
    go_ret
    exact ⟨by rw [HF.out]; first | rfl | simp [wrap64, *], rfl⟩
  · have HF := Lib.hid (show varI x = x by rw [HE.out, if_neg hx])
    go_enter Try.func32, Try.ntmps32
    go_wp2
    go_ret
    exact ⟨by rw [HF.out]; first | rfl | simp [wrap64, *], rfl⟩
theorem Var_any (x : Int) (h0 : -2147483648 ≤ x) (h1 : x ≤ 2147483647) (w : World) :
    Calls Try.prog 13 #[.int .i32 x] w fun e w' => e = .returned (.int .i64 (varI x)) ∧ w = w' := by
  have HC := Lib.hid (var_any x h0 h1 w)
  go_enter Try.func13, Try.ntmps13
  go_wp2_with fail
  refine HC.out.mono ?_
  rintro e w1 ⟨rfl, rfl⟩
  go_wp2
  go_ret
  exact ⟨rfl, rfl⟩
theorem rVar_any (x : Int) (h0 : -2147483648 ≤ x) (h1 : x ≤ 2147483647) (w : World) :
    Calls Try.prog 53 #[.int .i32 x] w fun e w' => e = .returned (.int .i64 (varI x)) ∧ w = w' := by
  have HE := Lib.hid (show varI x = if x < 0 then -x else x from rfl)
  have e1 : IntKind.i64.wrap x = x := IntWalk.i64_in _ (by omega)
  have e2 : IntKind.i64.wrap (-x) = -x := IntWalk.i64_in _ (by omega)
  by_cases hx : x < 0
  · have HF := Lib.hid (show varI x = -x by rw [HE.out, if_pos hx])
    go_enter Try.func53, Try.ntmps53
    go_wp2
    go_ret
    exact ⟨by rw [HF.out]; first | rfl | simp [wrap64, *], rfl⟩
  · have HF := Lib.hid (show varI x = x by rw [HE.out, if_neg hx])
    go_enter Try.func53, Try.ntmps53
    go_wp2
    go_ret
    exact ⟨by rw [HF.out]; first | rfl | simp [wrap64, *], rfl⟩
/-- A model's cell at a literal's variable. -/
theorem md_at {B : Nat} {w : World} {a : Option Addr} {n : Nat} {m : List Bool} (h : MdOk B w a n m) {i : Nat} (hi : i < n) : ∃ b off, a = some ⟨b, off, none⟩ ∧ b < B ∧ w.cell? ⟨b, off + i, none⟩ = some (.bool (m.getD i false)) := by
  obtain ⟨b, off, rfl, hx, hc⟩ := h.rd (by rw [List.length_map, ← h.ln]; omega)
  exact ⟨b, off, rfl, hx, hc i _ (bools_at (by rw [← h.ln]; exact hi))⟩
end Go.Proofs.Ytbbpebfgdcidjaa.Cl
