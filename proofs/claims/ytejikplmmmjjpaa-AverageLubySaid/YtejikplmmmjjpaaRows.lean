/-
  No cell of these rows narrows 'for every input' (looked for: loops, veiled, ifaces, maps, wideKeys, modest, calm, conditions, laid).
  DERIVED. THE GIVEN ROWS OF THIS SEAT. 7 by the template 'for every input the law returns true; each argument reads behind the call as it read before'; 0 by the template 'total and deterministic' (their statements: YtejikplmmmjjpaaTotals.lean).
  GIVEN WITH THE SEED: the statements are not yours to turn. If you find one false, say at which input.
  Laid BY PROGRAM, IN A SANDBOX (cutbox-rows.mjs): the forced cells as the released guide's own fill.sh prints them over the translation 13092d7bfab46a67… (all of the seat's roots in one cut). By AI agents, Wed Nov 11 2026. No macro, syntax, notation, axiom, sorry.
-/
import Derived.Test.YtejikplmmmjjpaaChecked
import GoSem.Claim
import GoSem.ClaimJoined
import GoSem.ClaimMapViews
import Derived.JoinedTies
import Derived.KernelRfl
namespace Go.Proofs.Ytejikplmmmjjpaa
/- THE CELL 'sum', in the pinned program and in every row, IS THE sha256 OF THE DUMP (.gsa) THAT YtejikplmmmjjpaaProg.lean LOADS. Nothing in Lean hashes anything: it is a label: what it is worth is what the hold of that sum in a sandbox is worth. -/
noncomputable def Try.pinned : Pinned := { name := "ytejikplmmmjjpaa", sum := "13092d7bfab46a67a54ae6b4e03be9f0391453f519be12d37c232366e25114db", checked := Try.checked }
namespace Rows
def none {H : Type} : Left H := { results := [], args := [] }

/-- 'threshinglaw15.AverageAdds': WHATEVER THE INPUT: true; the input reads as it did. -/
def averageAddsSpec : ChangeSpec := { name := "averageAdds", fn := fun _ => fun
  | [d1, d2] => { results := [.lit (.bool true)], args := [d1, d2] }
  | _ => none }
def averageAddsRow : OpenClaim := { program := "ytejikplmmmjjpaa", sum := "13092d7bfab46a67a54ae6b4e03be9f0391453f519be12d37c232366e25114db", func := "threshing/threshinglaw15.AverageAdds", spec := "averageAdds", apart := false }
def AverageAddsSaid : Prop := averageAddsRow.holds Try.pinned (OpenSpec.ofChange averageAddsSpec)

/-- ITS FALSE NEIGHBOUR: 'it returns false'. Refute it at one input. -/
def averageAddsWrong : ChangeSpec := { name := "averageAdds", fn := fun _ => fun
  | [d1, d2] => { results := [.lit (.bool false)], args := [d1, d2] }
  | _ => none }
def AverageAddsWrongFalsely : Prop := averageAddsRow.holds Try.pinned (OpenSpec.ofChange averageAddsWrong)

/-- 'threshinglaw15.AverageBetween': WHATEVER THE INPUT: true; the input reads as it did. -/
def averageBetweenSpec : ChangeSpec := { name := "averageBetween", fn := fun _ => fun
  | [d1, d2, d3, d4] => { results := [.lit (.bool true)], args := [d1, d2, d3, d4] }
  | _ => none }
def averageBetweenRow : OpenClaim := { program := "ytejikplmmmjjpaa", sum := "13092d7bfab46a67a54ae6b4e03be9f0391453f519be12d37c232366e25114db", func := "threshing/threshinglaw15.AverageBetween", spec := "averageBetween", apart := false }
def AverageBetweenSaid : Prop := averageBetweenRow.holds Try.pinned (OpenSpec.ofChange averageBetweenSpec)

/-- ITS FALSE NEIGHBOUR: 'it returns false'. Refute it at one input. -/
def averageBetweenWrong : ChangeSpec := { name := "averageBetween", fn := fun _ => fun
  | [d1, d2, d3, d4] => { results := [.lit (.bool false)], args := [d1, d2, d3, d4] }
  | _ => none }
def AverageBetweenWrongFalsely : Prop := averageBetweenRow.holds Try.pinned (OpenSpec.ofChange averageBetweenWrong)

/-- 'threshinglaw15.AverageMoves': WHATEVER THE INPUT: true; the input reads as it did. -/
def averageMovesSpec : ChangeSpec := { name := "averageMoves", fn := fun _ => fun
  | [d1, d2, d3] => { results := [.lit (.bool true)], args := [d1, d2, d3] }
  | _ => none }
def averageMovesRow : OpenClaim := { program := "ytejikplmmmjjpaa", sum := "13092d7bfab46a67a54ae6b4e03be9f0391453f519be12d37c232366e25114db", func := "threshing/threshinglaw15.AverageMoves", spec := "averageMoves", apart := false }
def AverageMovesSaid : Prop := averageMovesRow.holds Try.pinned (OpenSpec.ofChange averageMovesSpec)

/-- ITS FALSE NEIGHBOUR: 'it returns false'. Refute it at one input. -/
def averageMovesWrong : ChangeSpec := { name := "averageMoves", fn := fun _ => fun
  | [d1, d2, d3] => { results := [.lit (.bool false)], args := [d1, d2, d3] }
  | _ => none }
def AverageMovesWrongFalsely : Prop := averageMovesRow.holds Try.pinned (OpenSpec.ofChange averageMovesWrong)

/-- 'threshinglaw15.AverageLuby': WHATEVER THE INPUT: true; the input reads as it did. -/
def averageLubySpec : ChangeSpec := { name := "averageLuby", fn := fun _ => fun
  | [d1, d2] => { results := [.lit (.bool true)], args := [d1, d2] }
  | _ => none }
def averageLubyRow : OpenClaim := { program := "ytejikplmmmjjpaa", sum := "13092d7bfab46a67a54ae6b4e03be9f0391453f519be12d37c232366e25114db", func := "threshing/threshinglaw15.AverageLuby", spec := "averageLuby", unfollowed := true, recurses := true, apart := false }
def AverageLubySaid : Prop := averageLubyRow.holds Try.pinned (OpenSpec.ofChange averageLubySpec)

/-- ITS FALSE NEIGHBOUR: 'it returns false'. Refute it at one input. -/
def averageLubyWrong : ChangeSpec := { name := "averageLuby", fn := fun _ => fun
  | [d1, d2] => { results := [.lit (.bool false)], args := [d1, d2] }
  | _ => none }
def AverageLubyWrongFalsely : Prop := averageLubyRow.holds Try.pinned (OpenSpec.ofChange averageLubyWrong)

/-- 'threshinglaw15.AverageAbove': WHATEVER THE INPUT: true; the input reads as it did. -/
def averageAboveSpec : ChangeSpec := { name := "averageAbove", fn := fun _ => fun
  | [d1, d2, d3, d4, d5] => { results := [.lit (.bool true)], args := [d1, d2, d3, d4, d5] }
  | _ => none }
def averageAboveRow : OpenClaim := { program := "ytejikplmmmjjpaa", sum := "13092d7bfab46a67a54ae6b4e03be9f0391453f519be12d37c232366e25114db", func := "threshing/threshinglaw15.AverageAbove", spec := "averageAbove", apart := false }
def AverageAboveSaid : Prop := averageAboveRow.holds Try.pinned (OpenSpec.ofChange averageAboveSpec)

/-- ITS FALSE NEIGHBOUR: 'it returns false'. Refute it at one input. -/
def averageAboveWrong : ChangeSpec := { name := "averageAbove", fn := fun _ => fun
  | [d1, d2, d3, d4, d5] => { results := [.lit (.bool false)], args := [d1, d2, d3, d4, d5] }
  | _ => none }
def AverageAboveWrongFalsely : Prop := averageAboveRow.holds Try.pinned (OpenSpec.ofChange averageAboveWrong)

/-- 'threshinglaw15.AverageBells': WHATEVER THE INPUT: true; the input reads as it did. -/
def averageBellsSpec : ChangeSpec := { name := "averageBells", fn := fun _ => fun
  | [d1, d2] => { results := [.lit (.bool true)], args := [d1, d2] }
  | _ => none }
def averageBellsRow : OpenClaim := { program := "ytejikplmmmjjpaa", sum := "13092d7bfab46a67a54ae6b4e03be9f0391453f519be12d37c232366e25114db", func := "threshing/threshinglaw15.AverageBells", spec := "averageBells", apart := false }
def AverageBellsSaid : Prop := averageBellsRow.holds Try.pinned (OpenSpec.ofChange averageBellsSpec)

/-- ITS FALSE NEIGHBOUR: 'it returns false'. Refute it at one input. -/
def averageBellsWrong : ChangeSpec := { name := "averageBells", fn := fun _ => fun
  | [d1, d2] => { results := [.lit (.bool false)], args := [d1, d2] }
  | _ => none }
def AverageBellsWrongFalsely : Prop := averageBellsRow.holds Try.pinned (OpenSpec.ofChange averageBellsWrong)

/-- 'threshinglaw15.AverageKnown': WHATEVER THE INPUT: true; the input reads as it did. -/
def averageKnownSpec : ChangeSpec := { name := "averageKnown", fn := fun _ => fun
  | [] => { results := [.lit (.bool true)], args := [] }
  | _ => none }
def averageKnownRow : OpenClaim := { program := "ytejikplmmmjjpaa", sum := "13092d7bfab46a67a54ae6b4e03be9f0391453f519be12d37c232366e25114db", func := "threshing/threshinglaw15.AverageKnown", spec := "averageKnown", apart := false }
def AverageKnownSaid : Prop := averageKnownRow.holds Try.pinned (OpenSpec.ofChange averageKnownSpec)

/-- ITS FALSE NEIGHBOUR: 'it returns false'. Refute it at one input. -/
def averageKnownWrong : ChangeSpec := { name := "averageKnown", fn := fun _ => fun
  | [] => { results := [.lit (.bool false)], args := [] }
  | _ => none }
def AverageKnownWrongFalsely : Prop := averageKnownRow.holds Try.pinned (OpenSpec.ofChange averageKnownWrong)

/- THE SECOND FORM. 'bulk': how many values and letters a reading holds, each counted each time it is reached (what is shared counts as often as it is met; a slice's spare places count too). A statement '..UptoSaid' is the law's where the arguments, and the package variables that the reading takes, are together of bulk at most 1048576: NARROWER than '..Said'. Prove '..Said' where nothing that the law and all that it calls make is longer than what came in: it says more and counts as full. Else prove '..UptoSaid'. A law counts once. -/
mutual
def uptoBulk {H : Type} : DataW H → Nat
  | .lit (.string bytes) => bytes.length + 1
  | .lit _ => 1
  | .nil => 1
  | .ptr d => uptoBulk d + 1
  | .slice elems spare => uptoBulkAll elems + uptoBulkAll spare + 1
  | .agg parts => uptoBulkAll parts + 1
  | .iface _ d => uptoBulk d + 1
  | .map entries => uptoBulkEntries entries + 1
  | .held _ => 1
def uptoBulkAll {H : Type} : List (DataW H) → Nat
  | [] => 0
  | d :: r => uptoBulk d + uptoBulkAll r
def uptoBulkEntries {H : Type} : List (Lit × DataW H) → Nat
  | [] => 0
  | x :: r => uptoBulkEntry x + uptoBulkEntries r
def uptoBulkEntry {H : Type} : Lit × DataW H → Nat
  | (.string bytes, d) => bytes.length + uptoBulk d + 1
  | (_, d) => uptoBulk d + 1
 end
def uptoSmall : (H : Type) → List (DataW H) → Bool := fun _ ds => decide (uptoBulkAll ds ≤ 1048576)
def OpenSpec.upto (s : _root_.Go.ChangeSpec) : _root_.Go.OpenSpec := { _root_.Go.OpenSpec.ofChange s with cond := some uptoSmall }

/-- 'threshinglaw15.AverageAdds', WHERE WHAT IT READS IS OF BULK AT MOST 1048576: true; the input reads as it did. -/
def averageAddsUptoRow : OpenClaim := { program := "ytejikplmmmjjpaa", sum := "13092d7bfab46a67a54ae6b4e03be9f0391453f519be12d37c232366e25114db", func := "threshing/threshinglaw15.AverageAdds", spec := "averageAdds", apart := false, narrowed := true }
def AverageAddsUptoSaid : Prop := averageAddsUptoRow.holds Try.pinned (OpenSpec.upto averageAddsSpec)

/-- 'threshinglaw15.AverageBetween', WHERE WHAT IT READS IS OF BULK AT MOST 1048576: true; the input reads as it did. -/
def averageBetweenUptoRow : OpenClaim := { program := "ytejikplmmmjjpaa", sum := "13092d7bfab46a67a54ae6b4e03be9f0391453f519be12d37c232366e25114db", func := "threshing/threshinglaw15.AverageBetween", spec := "averageBetween", apart := false, narrowed := true }
def AverageBetweenUptoSaid : Prop := averageBetweenUptoRow.holds Try.pinned (OpenSpec.upto averageBetweenSpec)

/-- 'threshinglaw15.AverageMoves', WHERE WHAT IT READS IS OF BULK AT MOST 1048576: true; the input reads as it did. -/
def averageMovesUptoRow : OpenClaim := { program := "ytejikplmmmjjpaa", sum := "13092d7bfab46a67a54ae6b4e03be9f0391453f519be12d37c232366e25114db", func := "threshing/threshinglaw15.AverageMoves", spec := "averageMoves", apart := false, narrowed := true }
def AverageMovesUptoSaid : Prop := averageMovesUptoRow.holds Try.pinned (OpenSpec.upto averageMovesSpec)

/-- 'threshinglaw15.AverageLuby', WHERE WHAT IT READS IS OF BULK AT MOST 1048576: true; the input reads as it did. -/
def averageLubyUptoRow : OpenClaim := { program := "ytejikplmmmjjpaa", sum := "13092d7bfab46a67a54ae6b4e03be9f0391453f519be12d37c232366e25114db", func := "threshing/threshinglaw15.AverageLuby", spec := "averageLuby", unfollowed := true, recurses := true, apart := false, narrowed := true }
def AverageLubyUptoSaid : Prop := averageLubyUptoRow.holds Try.pinned (OpenSpec.upto averageLubySpec)

/-- 'threshinglaw15.AverageAbove', WHERE WHAT IT READS IS OF BULK AT MOST 1048576: true; the input reads as it did. -/
def averageAboveUptoRow : OpenClaim := { program := "ytejikplmmmjjpaa", sum := "13092d7bfab46a67a54ae6b4e03be9f0391453f519be12d37c232366e25114db", func := "threshing/threshinglaw15.AverageAbove", spec := "averageAbove", apart := false, narrowed := true }
def AverageAboveUptoSaid : Prop := averageAboveUptoRow.holds Try.pinned (OpenSpec.upto averageAboveSpec)

/-- 'threshinglaw15.AverageBells', WHERE WHAT IT READS IS OF BULK AT MOST 1048576: true; the input reads as it did. -/
def averageBellsUptoRow : OpenClaim := { program := "ytejikplmmmjjpaa", sum := "13092d7bfab46a67a54ae6b4e03be9f0391453f519be12d37c232366e25114db", func := "threshing/threshinglaw15.AverageBells", spec := "averageBells", apart := false, narrowed := true }
def AverageBellsUptoSaid : Prop := averageBellsUptoRow.holds Try.pinned (OpenSpec.upto averageBellsSpec)

/-- 'threshinglaw15.AverageKnown', WHERE WHAT IT READS IS OF BULK AT MOST 1048576: true; the input reads as it did. -/
def averageKnownUptoRow : OpenClaim := { program := "ytejikplmmmjjpaa", sum := "13092d7bfab46a67a54ae6b4e03be9f0391453f519be12d37c232366e25114db", func := "threshing/threshinglaw15.AverageKnown", spec := "averageKnown", apart := false, narrowed := true }
def AverageKnownUptoSaid : Prop := averageKnownUptoRow.holds Try.pinned (OpenSpec.upto averageKnownSpec)

end Rows
end Go.Proofs.Ytejikplmmmjjpaa
