/- Words that walks share: what lies behind a later world, elements of a row. Plain theorems, no condition. -/
import Derived.Test.YtcblhfjgdkbinaaRows
import Derived.Test.YtcblhfjgdkbinaaSl
import Derived.WalkKit
import Derived.Lib.Hide
import Derived.Outline
import Derived.Shelf.Abstract
import Derived.Deep.QuietTactic
import Derived.BigQuiet
import Derived.StillTailTactics
import Derived.Laws.CopyOwn
import Derived.Deep.OwnRows
import Derived.Deep.RegionLaw
import Derived.IntWalk
import Derived.Deep.CutBlock
import Derived.Deep.DeepCutAuto
import Derived.Deep.RegionHeld3
import Derived.Laws.AppendOwn
import Derived.Laws.AppendOwnNone
namespace Go.Proofs.Ytcblhfjgdkbinaa.FnL
open Go.RowKit Go.Proofs.Ytcblhfjgdkbinaa.Mem Go.Proofs.Ytcblhfjgdkbinaa.Sl Go.Shelf
set_option linter.unusedVariables false

theorem below_then {B : Nat} {a b c : World} (h : Below B a b) (k : Below b.heap.size b c) (hB : B ≤ b.heap.size) : Below B a c :=
  h.trans ⟨k.os, k.tape, k.output, k.size, fun i hi => k.block i (Nat.lt_of_lt_of_le hi hB)⟩
theorem enc_at {α : Type} {enc : α → Value} {l : List α} {i : Nat} (h : i < l.length) : (l.map enc)[i]? = some (enc (l[i]'h)) := by simp [h]
end Go.Proofs.Ytcblhfjgdkbinaa.FnL
