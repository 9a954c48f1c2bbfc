/-
  No cell of these rows narrows 'for every input' (looked for: loops, veiled, ifaces, maps, wideKeys, modest, calm, conditions, laid).
  DERIVED. THE GIVEN ROWS OF THIS SEAT. 3 by the template 'for every input the law returns true; each argument reads behind the call as it read before'; 0 by the template 'total and deterministic' (their statements: YtcblhfjgdkbinaaTotals.lean).
  GIVEN WITH THE SEED: the statements are not yours to turn. If you find one false, say at which input.
  Laid BY PROGRAM, IN A SANDBOX (cutbox-rows.mjs): the forced cells as the released guide's own fill.sh prints them over the translation bfd97528a7a59a06… (all of the seat's roots in one cut). By AI agents, Wed Nov 11 2026. No macro, syntax, notation, axiom, sorry.
-/
import Derived.Test.YtcblhfjgdkbinaaChecked
import GoSem.Claim
import GoSem.ClaimJoined
import GoSem.ClaimMapViews
import Derived.JoinedTies
import Derived.KernelRfl
namespace Go.Proofs.Ytcblhfjgdkbinaa
/- THE CELL 'sum', in the pinned program and in every row, IS THE sha256 OF THE DUMP (.gsa) THAT YtcblhfjgdkbinaaProg.lean LOADS. Nothing in Lean hashes anything: it is a label: what it is worth is what the hold of that sum in a sandbox is worth. -/
noncomputable def Try.pinned : Pinned := { name := "ytcblhfjgdkbinaa", sum := "bfd97528a7a59a06e1adac8b699c9f94a8832a5f93258ac36af59efb243ffef8", checked := Try.checked }
namespace Rows
def none {H : Type} : Left H := { results := [], args := [] }

/-- 'threshinglaw18.ReduceKeeps': WHATEVER THE INPUT: true; the input reads as it did. -/
def reduceKeepsSpec : ChangeSpec := { name := "reduceKeeps", fn := fun _ => fun
  | [d1, d2, d3, d4] => { results := [.lit (.bool true)], args := [d1, d2, d3, d4] }
  | _ => none }
def reduceKeepsRow : OpenClaim := { program := "ytcblhfjgdkbinaa", sum := "bfd97528a7a59a06e1adac8b699c9f94a8832a5f93258ac36af59efb243ffef8", func := "threshing/threshinglaw18.ReduceKeeps", spec := "reduceKeeps", unfollowed := true, recurses := true, apart := false }
def ReduceKeepsSaid : Prop := reduceKeepsRow.holds Try.pinned (OpenSpec.ofChange reduceKeepsSpec)

/-- ITS FALSE NEIGHBOUR: 'it returns false'. Refute it at one input. -/
def reduceKeepsWrong : ChangeSpec := { name := "reduceKeeps", fn := fun _ => fun
  | [d1, d2, d3, d4] => { results := [.lit (.bool false)], args := [d1, d2, d3, d4] }
  | _ => none }
def ReduceKeepsWrongFalsely : Prop := reduceKeepsRow.holds Try.pinned (OpenSpec.ofChange reduceKeepsWrong)

/-- 'threshinglaw18.ReduceLimits': WHATEVER THE INPUT: true; the input reads as it did. -/
def reduceLimitsSpec : ChangeSpec := { name := "reduceLimits", fn := fun _ => fun
  | [d1, d2] => { results := [.lit (.bool true)], args := [d1, d2] }
  | _ => none }
def reduceLimitsRow : OpenClaim := { program := "ytcblhfjgdkbinaa", sum := "bfd97528a7a59a06e1adac8b699c9f94a8832a5f93258ac36af59efb243ffef8", func := "threshing/threshinglaw18.ReduceLimits", spec := "reduceLimits", unfollowed := true, recurses := true, apart := false }
def ReduceLimitsSaid : Prop := reduceLimitsRow.holds Try.pinned (OpenSpec.ofChange reduceLimitsSpec)

/-- ITS FALSE NEIGHBOUR: 'it returns false'. Refute it at one input. -/
def reduceLimitsWrong : ChangeSpec := { name := "reduceLimits", fn := fun _ => fun
  | [d1, d2] => { results := [.lit (.bool false)], args := [d1, d2] }
  | _ => none }
def ReduceLimitsWrongFalsely : Prop := reduceLimitsRow.holds Try.pinned (OpenSpec.ofChange reduceLimitsWrong)

/-- 'threshinglaw18.ReduceKnown': WHATEVER THE INPUT: true; the input reads as it did. -/
def reduceKnownSpec : ChangeSpec := { name := "reduceKnown", fn := fun _ => fun
  | [] => { results := [.lit (.bool true)], args := [] }
  | _ => none }
def reduceKnownRow : OpenClaim := { program := "ytcblhfjgdkbinaa", sum := "bfd97528a7a59a06e1adac8b699c9f94a8832a5f93258ac36af59efb243ffef8", func := "threshing/threshinglaw18.ReduceKnown", spec := "reduceKnown", unfollowed := true, recurses := true, apart := false }
def ReduceKnownSaid : Prop := reduceKnownRow.holds Try.pinned (OpenSpec.ofChange reduceKnownSpec)

/-- ITS FALSE NEIGHBOUR: 'it returns false'. Refute it at one input. -/
def reduceKnownWrong : ChangeSpec := { name := "reduceKnown", fn := fun _ => fun
  | [] => { results := [.lit (.bool false)], args := [] }
  | _ => none }
def ReduceKnownWrongFalsely : Prop := reduceKnownRow.holds Try.pinned (OpenSpec.ofChange reduceKnownWrong)

/- THE SECOND FORM. 'bulk': how many values and letters a reading holds, each counted each time it is reached (what is shared counts as often as it is met; a slice's spare places count too). A statement '..UptoSaid' is the law's where the arguments, and the package variables that the reading takes, are together of bulk at most 1048576: NARROWER than '..Said'. Prove '..Said' where nothing that the law and all that it calls make is longer than what came in: it says more and counts as full. Else prove '..UptoSaid'. A law counts once. -/
mutual
def uptoBulk {H : Type} : DataW H → Nat
  | .lit (.string bytes) => bytes.length + 1
  | .lit _ => 1
  | .nil => 1
  | .ptr d => uptoBulk d + 1
  | .slice elems spare => uptoBulkAll elems + uptoBulkAll spare + 1
  | .agg parts => uptoBulkAll parts + 1
  | .iface _ d => uptoBulk d + 1
  | .map entries => uptoBulkEntries entries + 1
  | .held _ => 1
def uptoBulkAll {H : Type} : List (DataW H) → Nat
  | [] => 0
  | d :: r => uptoBulk d + uptoBulkAll r
def uptoBulkEntries {H : Type} : List (Lit × DataW H) → Nat
  | [] => 0
  | x :: r => uptoBulkEntry x + uptoBulkEntries r
def uptoBulkEntry {H : Type} : Lit × DataW H → Nat
  | (.string bytes, d) => bytes.length + uptoBulk d + 1
  | (_, d) => uptoBulk d + 1
 end
def uptoSmall : (H : Type) → List (DataW H) → Bool := fun _ ds => decide (uptoBulkAll ds ≤ 1048576)
def OpenSpec.upto (s : _root_.Go.ChangeSpec) : _root_.Go.OpenSpec := { _root_.Go.OpenSpec.ofChange s with cond := some uptoSmall }

/-- 'threshinglaw18.ReduceKeeps', WHERE WHAT IT READS IS OF BULK AT MOST 1048576: true; the input reads as it did. -/
def reduceKeepsUptoRow : OpenClaim := { program := "ytcblhfjgdkbinaa", sum := "bfd97528a7a59a06e1adac8b699c9f94a8832a5f93258ac36af59efb243ffef8", func := "threshing/threshinglaw18.ReduceKeeps", spec := "reduceKeeps", unfollowed := true, recurses := true, apart := false, narrowed := true }
def ReduceKeepsUptoSaid : Prop := reduceKeepsUptoRow.holds Try.pinned (OpenSpec.upto reduceKeepsSpec)

/-- 'threshinglaw18.ReduceLimits', WHERE WHAT IT READS IS OF BULK AT MOST 1048576: true; the input reads as it did. -/
def reduceLimitsUptoRow : OpenClaim := { program := "ytcblhfjgdkbinaa", sum := "bfd97528a7a59a06e1adac8b699c9f94a8832a5f93258ac36af59efb243ffef8", func := "threshing/threshinglaw18.ReduceLimits", spec := "reduceLimits", unfollowed := true, recurses := true, apart := false, narrowed := true }
def ReduceLimitsUptoSaid : Prop := reduceLimitsUptoRow.holds Try.pinned (OpenSpec.upto reduceLimitsSpec)

/-- 'threshinglaw18.ReduceKnown', WHERE WHAT IT READS IS OF BULK AT MOST 1048576: true; the input reads as it did. -/
def reduceKnownUptoRow : OpenClaim := { program := "ytcblhfjgdkbinaa", sum := "bfd97528a7a59a06e1adac8b699c9f94a8832a5f93258ac36af59efb243ffef8", func := "threshing/threshinglaw18.ReduceKnown", spec := "reduceKnown", unfollowed := true, recurses := true, apart := false, narrowed := true }
def ReduceKnownUptoSaid : Prop := reduceKnownUptoRow.holds Try.pinned (OpenSpec.upto reduceKnownSpec)

end Rows
end Go.Proofs.Ytcblhfjgdkbinaa
