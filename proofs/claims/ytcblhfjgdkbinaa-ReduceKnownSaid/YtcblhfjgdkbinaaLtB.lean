/- A region that draws its order, whose own operations only read, and whose callees may draw and lay blocks: walked once, in every later world. Plain theorems, no condition. -/
import Derived.Test.YtcblhfjgdkbinaaFnB
namespace Go.Proofs.Ytcblhfjgdkbinaa.Lt
open Go.RowKit Go.Proofs.Ytcblhfjgdkbinaa.Mem Go.Proofs.Ytcblhfjgdkbinaa.Sl Go.Shelf
open Go.Proofs.Ytcblhfjgdkbinaa.FnL (below_then)
set_option linter.unusedVariables false

/-- A world behind w: what was there is there. -/
structure Later (w : World) where
  w' : World
  h : Below w.heap.size w w'
instance later_inhabited (w : World) : Inhabited (Later w) := ⟨⟨w, Below.refl _ _⟩⟩
theorem wp_region_later {P : Program} {id : Nat} {Q : Exit → Act → World → Prop} {a : Act} {w : World} {l : List Oper} (hm : P.follows .mixedOrders = true) (hB : Region.lexB .any l.toArray = true)
    (h : wpQuiet P l.toArray (fun w' => ∃ p : Later w, w' = p.w') (fun a' => ∀ w', (∃ p : Later w, w' = p.w') → Q .normal a' w') l a) : (Code.region id l.toArray true).wp P Q a w :=
  wp_region_quiet (C := fun w' => ∃ p : Later w, w' = p.w') hm hB ⟨⟨w.drew, ⟨rfl, rfl, rfl, Nat.le_refl _, fun _ _ => rfl⟩⟩, rfl⟩ (by simpa using h)
theorem Later.meet {P : Program} {f : FuncId} {args : Array Value} {w : World} {v : Value} (h : ∀ W, Below w.heap.size w W → Calls P f args W fun e w' => e = .returned v ∧ Below W.heap.size W w') (p : Later w) :
    Calls P f args p.w' fun e w'' => e = .returned v ∧ ∃ q : Later w, w'' = q.w' :=
  (h p.w' p.h).mono fun e w2 ⟨he, hb⟩ => ⟨he, ⟨w2, below_then p.h hb p.h.size⟩, rfl⟩
end Go.Proofs.Ytcblhfjgdkbinaa.Lt
