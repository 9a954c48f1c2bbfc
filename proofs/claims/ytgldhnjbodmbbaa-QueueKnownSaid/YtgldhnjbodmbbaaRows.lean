/-
  No cell of these rows narrows 'for every input' (looked for: loops, veiled, ifaces, maps, wideKeys, modest, calm, conditions, laid).
  DERIVED. THE GIVEN ROWS OF THIS SEAT. 5 by the template 'for every input the law returns true; each argument reads behind the call as it read before'; 0 by the template 'total and deterministic' (their statements: YtgldhnjbodmbbaaTotals.lean).
  GIVEN WITH THE SEED: the statements are not yours to turn. If you find one false, say at which input.
  Laid BY PROGRAM, IN A SANDBOX (cutbox-rows.mjs): the forced cells as the released guide's own fill.sh prints them over the translation 5f0aa0c8f84fe53e… (all of the seat's roots in one cut). By AI agents, Wed Nov 11 2026. No macro, syntax, notation, axiom, sorry.
-/
import Derived.Test.YtgldhnjbodmbbaaChecked
import GoSem.Claim
import GoSem.ClaimJoined
import GoSem.ClaimMapViews
import Derived.JoinedTies
import Derived.KernelRfl
namespace Go.Proofs.Ytgldhnjbodmbbaa
/- THE CELL 'sum', in the pinned program and in every row, IS THE sha256 OF THE DUMP (.gsa) THAT YtgldhnjbodmbbaaProg.lean LOADS. Nothing in Lean hashes anything: it is a label: what it is worth is what the hold of that sum in a sandbox is worth. -/
noncomputable def Try.pinned : Pinned := { name := "ytgldhnjbodmbbaa", sum := "5f0aa0c8f84fe53e44248048449402865b588686da480aedfdd43a35da460818", checked := Try.checked }
namespace Rows
def none {H : Type} : Left H := { results := [], args := [] }

/-- 'threshinglaw13.QueueRow': WHATEVER THE INPUT: true; the input reads as it did. -/
def queueRowSpec : ChangeSpec := { name := "queueRow", fn := fun _ => fun
  | [d1, d2] => { results := [.lit (.bool true)], args := [d1, d2] }
  | _ => none }
def queueRowRow : OpenClaim := { program := "ytgldhnjbodmbbaa", sum := "5f0aa0c8f84fe53e44248048449402865b588686da480aedfdd43a35da460818", func := "threshing/threshinglaw13.QueueRow", spec := "queueRow", unfollowed := true, recurses := true, apart := false }
def QueueRowSaid : Prop := queueRowRow.holds Try.pinned (OpenSpec.ofChange queueRowSpec)

/-- ITS FALSE NEIGHBOUR: 'it returns false'. Refute it at one input. -/
def queueRowWrong : ChangeSpec := { name := "queueRow", fn := fun _ => fun
  | [d1, d2] => { results := [.lit (.bool false)], args := [d1, d2] }
  | _ => none }
def QueueRowWrongFalsely : Prop := queueRowRow.holds Try.pinned (OpenSpec.ofChange queueRowWrong)

/-- 'threshinglaw13.QueueNext': WHATEVER THE INPUT: true; the input reads as it did. -/
def queueNextSpec : ChangeSpec := { name := "queueNext", fn := fun _ => fun
  | [d1, d2, d3] => { results := [.lit (.bool true)], args := [d1, d2, d3] }
  | _ => none }
def queueNextRow : OpenClaim := { program := "ytgldhnjbodmbbaa", sum := "5f0aa0c8f84fe53e44248048449402865b588686da480aedfdd43a35da460818", func := "threshing/threshinglaw13.QueueNext", spec := "queueNext", unfollowed := true, recurses := true, apart := false }
def QueueNextSaid : Prop := queueNextRow.holds Try.pinned (OpenSpec.ofChange queueNextSpec)

/-- ITS FALSE NEIGHBOUR: 'it returns false'. Refute it at one input. -/
def queueNextWrong : ChangeSpec := { name := "queueNext", fn := fun _ => fun
  | [d1, d2, d3] => { results := [.lit (.bool false)], args := [d1, d2, d3] }
  | _ => none }
def QueueNextWrongFalsely : Prop := queueNextRow.holds Try.pinned (OpenSpec.ofChange queueNextWrong)

/-- 'threshinglaw13.QueueTurned': WHATEVER THE INPUT: true; the input reads as it did. -/
def queueTurnedSpec : ChangeSpec := { name := "queueTurned", fn := fun _ => fun
  | [d1, d2, d3] => { results := [.lit (.bool true)], args := [d1, d2, d3] }
  | _ => none }
def queueTurnedRow : OpenClaim := { program := "ytgldhnjbodmbbaa", sum := "5f0aa0c8f84fe53e44248048449402865b588686da480aedfdd43a35da460818", func := "threshing/threshinglaw13.QueueTurned", spec := "queueTurned", unfollowed := true, recurses := true, apart := false }
def QueueTurnedSaid : Prop := queueTurnedRow.holds Try.pinned (OpenSpec.ofChange queueTurnedSpec)

/-- ITS FALSE NEIGHBOUR: 'it returns false'. Refute it at one input. -/
def queueTurnedWrong : ChangeSpec := { name := "queueTurned", fn := fun _ => fun
  | [d1, d2, d3] => { results := [.lit (.bool false)], args := [d1, d2, d3] }
  | _ => none }
def QueueTurnedWrongFalsely : Prop := queueTurnedRow.holds Try.pinned (OpenSpec.ofChange queueTurnedWrong)

/-- 'threshinglaw13.QueuePlays': WHATEVER THE INPUT: true; the input reads as it did. -/
def queuePlaysSpec : ChangeSpec := { name := "queuePlays", fn := fun _ => fun
  | [d1, d2] => { results := [.lit (.bool true)], args := [d1, d2] }
  | _ => none }
def queuePlaysRow : OpenClaim := { program := "ytgldhnjbodmbbaa", sum := "5f0aa0c8f84fe53e44248048449402865b588686da480aedfdd43a35da460818", func := "threshing/threshinglaw13.QueuePlays", spec := "queuePlays", unfollowed := true, recurses := true, apart := false }
def QueuePlaysSaid : Prop := queuePlaysRow.holds Try.pinned (OpenSpec.ofChange queuePlaysSpec)

/-- ITS FALSE NEIGHBOUR: 'it returns false'. Refute it at one input. -/
def queuePlaysWrong : ChangeSpec := { name := "queuePlays", fn := fun _ => fun
  | [d1, d2] => { results := [.lit (.bool false)], args := [d1, d2] }
  | _ => none }
def QueuePlaysWrongFalsely : Prop := queuePlaysRow.holds Try.pinned (OpenSpec.ofChange queuePlaysWrong)

/-- 'threshinglaw13.QueueKnown': WHATEVER THE INPUT: true; the input reads as it did. -/
def queueKnownSpec : ChangeSpec := { name := "queueKnown", fn := fun _ => fun
  | [] => { results := [.lit (.bool true)], args := [] }
  | _ => none }
def queueKnownRow : OpenClaim := { program := "ytgldhnjbodmbbaa", sum := "5f0aa0c8f84fe53e44248048449402865b588686da480aedfdd43a35da460818", func := "threshing/threshinglaw13.QueueKnown", spec := "queueKnown", unfollowed := true, recurses := true, apart := false }
def QueueKnownSaid : Prop := queueKnownRow.holds Try.pinned (OpenSpec.ofChange queueKnownSpec)

/-- ITS FALSE NEIGHBOUR: 'it returns false'. Refute it at one input. -/
def queueKnownWrong : ChangeSpec := { name := "queueKnown", fn := fun _ => fun
  | [] => { results := [.lit (.bool false)], args := [] }
  | _ => none }
def QueueKnownWrongFalsely : Prop := queueKnownRow.holds Try.pinned (OpenSpec.ofChange queueKnownWrong)

/- THE SECOND FORM. 'bulk': how many values and letters a reading holds, each counted each time it is reached (what is shared counts as often as it is met; a slice's spare places count too). A statement '..UptoSaid' is the law's where the arguments, and the package variables that the reading takes, are together of bulk at most 1048576: NARROWER than '..Said'. Prove '..Said' where nothing that the law and all that it calls make is longer than what came in: it says more and counts as full. Else prove '..UptoSaid'. A law counts once. -/
mutual
def uptoBulk {H : Type} : DataW H → Nat
  | .lit (.string bytes) => bytes.length + 1
  | .lit _ => 1
  | .nil => 1
  | .ptr d => uptoBulk d + 1
  | .slice elems spare => uptoBulkAll elems + uptoBulkAll spare + 1
  | .agg parts => uptoBulkAll parts + 1
  | .iface _ d => uptoBulk d + 1
  | .map entries => uptoBulkEntries entries + 1
  | .held _ => 1
def uptoBulkAll {H : Type} : List (DataW H) → Nat
  | [] => 0
  | d :: r => uptoBulk d + uptoBulkAll r
def uptoBulkEntries {H : Type} : List (Lit × DataW H) → Nat
  | [] => 0
  | x :: r => uptoBulkEntry x + uptoBulkEntries r
def uptoBulkEntry {H : Type} : Lit × DataW H → Nat
  | (.string bytes, d) => bytes.length + uptoBulk d + 1
  | (_, d) => uptoBulk d + 1
 end
def uptoSmall : (H : Type) → List (DataW H) → Bool := fun _ ds => decide (uptoBulkAll ds ≤ 1048576)
def OpenSpec.upto (s : _root_.Go.ChangeSpec) : _root_.Go.OpenSpec := { _root_.Go.OpenSpec.ofChange s with cond := some uptoSmall }

/-- 'threshinglaw13.QueueRow', WHERE WHAT IT READS IS OF BULK AT MOST 1048576: true; the input reads as it did. -/
def queueRowUptoRow : OpenClaim := { program := "ytgldhnjbodmbbaa", sum := "5f0aa0c8f84fe53e44248048449402865b588686da480aedfdd43a35da460818", func := "threshing/threshinglaw13.QueueRow", spec := "queueRow", unfollowed := true, recurses := true, apart := false, narrowed := true }
def QueueRowUptoSaid : Prop := queueRowUptoRow.holds Try.pinned (OpenSpec.upto queueRowSpec)

/-- 'threshinglaw13.QueueNext', WHERE WHAT IT READS IS OF BULK AT MOST 1048576: true; the input reads as it did. -/
def queueNextUptoRow : OpenClaim := { program := "ytgldhnjbodmbbaa", sum := "5f0aa0c8f84fe53e44248048449402865b588686da480aedfdd43a35da460818", func := "threshing/threshinglaw13.QueueNext", spec := "queueNext", unfollowed := true, recurses := true, apart := false, narrowed := true }
def QueueNextUptoSaid : Prop := queueNextUptoRow.holds Try.pinned (OpenSpec.upto queueNextSpec)

/-- 'threshinglaw13.QueueTurned', WHERE WHAT IT READS IS OF BULK AT MOST 1048576: true; the input reads as it did. -/
def queueTurnedUptoRow : OpenClaim := { program := "ytgldhnjbodmbbaa", sum := "5f0aa0c8f84fe53e44248048449402865b588686da480aedfdd43a35da460818", func := "threshing/threshinglaw13.QueueTurned", spec := "queueTurned", unfollowed := true, recurses := true, apart := false, narrowed := true }
def QueueTurnedUptoSaid : Prop := queueTurnedUptoRow.holds Try.pinned (OpenSpec.upto queueTurnedSpec)

/-- 'threshinglaw13.QueuePlays', WHERE WHAT IT READS IS OF BULK AT MOST 1048576: true; the input reads as it did. -/
def queuePlaysUptoRow : OpenClaim := { program := "ytgldhnjbodmbbaa", sum := "5f0aa0c8f84fe53e44248048449402865b588686da480aedfdd43a35da460818", func := "threshing/threshinglaw13.QueuePlays", spec := "queuePlays", unfollowed := true, recurses := true, apart := false, narrowed := true }
def QueuePlaysUptoSaid : Prop := queuePlaysUptoRow.holds Try.pinned (OpenSpec.upto queuePlaysSpec)

/-- 'threshinglaw13.QueueKnown', WHERE WHAT IT READS IS OF BULK AT MOST 1048576: true; the input reads as it did. -/
def queueKnownUptoRow : OpenClaim := { program := "ytgldhnjbodmbbaa", sum := "5f0aa0c8f84fe53e44248048449402865b588686da480aedfdd43a35da460818", func := "threshing/threshinglaw13.QueueKnown", spec := "queueKnown", unfollowed := true, recurses := true, apart := false, narrowed := true }
def QueueKnownUptoSaid : Prop := queueKnownUptoRow.holds Try.pinned (OpenSpec.upto queueKnownSpec)

end Rows
end Go.Proofs.Ytgldhnjbodmbbaa
