/- Clauses and models in memory. No condition. -/
import Derived.Test.YtenadnmglhghiaaFnB
import Derived.Laws.EntriesVeiled
namespace Go.Proofs.Ytenadnmglhghiaa.Cl
open Go.RowKit Go.Proofs.Ytenadnmglhghiaa.Mem Go.Proofs.Ytenadnmglhghiaa.Sl Go.Shelf
open Go.Proofs.Ytenadnmglhghiaa.FnL (enc_at below_then)
set_option linter.unusedVariables false

structure CV where
  A : Option Addr
  n : Nat
  c : Nat
  l : List Int
def CV.v (x : CV) : Value := .slice x.A x.n x.c
/-- A clause that can be read below B. -/
structure ClOk (B : Nat) (w : World) (x : CV) : Prop where
  ln : x.n = x.l.length
  mx : x.n ≤ 9223372036854775807
  rd : RdB B w x.A (x.l.map (Value.int .i32))
  lb : ∀ y, y ∈ x.l → -2147483648 ≤ y ∧ y ≤ 2147483647
theorem ClOk.below {B : Nat} {w w' : World} {x : CV} (h : ClOk B w x) (hb : Below B w w') : ClOk B w' x := ⟨h.ln, h.mx, h.rd.below hb, h.lb⟩
theorem RdB.up {B B' : Nat} {w : World} {a : Option Addr} {vs : List Value} (h : RdB B w a vs) (hB : B ≤ B') : RdB B' w a vs := fun hp => by
  obtain ⟨b, off, rfl, hx, hc⟩ := h hp
  exact ⟨b, off, rfl, by omega, hc⟩
theorem ClOk.up {B B' : Nat} {w : World} {x : CV} (h : ClOk B w x) (hB : B ≤ B') : ClOk B' w x := ⟨h.ln, h.mx, RdB.up h.rd hB, h.lb⟩
/-- A model that can be read: its slice's value. -/
structure MdOk (B : Nat) (w : World) (a : Option Addr) (n : Nat) (m : List Bool) : Prop where
  ln : n = m.length
  mx : n ≤ 9223372036854775807
  rd : RdB B w a (m.map Value.bool)
theorem MdOk.below {B : Nat} {w w' : World} {a : Option Addr} {n : Nat} {m : List Bool} (h : MdOk B w a n m) (hb : Below B w w') : MdOk B w' a n m := ⟨h.ln, h.mx, h.rd.below hb⟩

theorem MdOk.up {B B' : Nat} {w : World} {a : Option Addr} {n : Nat} {m : List Bool} (h : MdOk B w a n m) (hB : B ≤ B') : MdOk B' w a n m := ⟨h.ln, h.mx, RdB.up h.rd hB⟩

end Go.Proofs.Ytenadnmglhghiaa.Cl
