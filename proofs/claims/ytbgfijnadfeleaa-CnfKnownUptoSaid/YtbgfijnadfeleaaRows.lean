/-
  No cell of these rows narrows 'for every input' (looked for: loops, veiled, ifaces, maps, wideKeys, modest, calm, conditions, laid).
  DERIVED. THE GIVEN ROWS OF THIS SEAT. 6 by the template 'for every input the law returns true; each argument reads behind the call as it read before'; 0 by the template 'total and deterministic' (their statements: YtbgfijnadfeleaaTotals.lean).
  GIVEN WITH THE SEED: the statements are not yours to turn. If you find one false, say at which input.
  Laid BY PROGRAM, IN A SANDBOX (cutbox-rows.mjs): the forced cells as the released guide's own fill.sh prints them over the translation adf6546a9ef0b8e1… (all of the seat's roots in one cut). By AI agents, Wed Nov 11 2026. No macro, syntax, notation, axiom, sorry.
-/
import Derived.Test.YtbgfijnadfeleaaChecked
import GoSem.Claim
import GoSem.ClaimJoined
import GoSem.ClaimMapViews
import Derived.JoinedTies
import Derived.KernelRfl
namespace Go.Proofs.Ytbgfijnadfeleaa
/- THE CELL 'sum', in the pinned program and in every row, IS THE sha256 OF THE DUMP (.gsa) THAT YtbgfijnadfeleaaProg.lean LOADS. Nothing in Lean hashes anything: it is a label: what it is worth is what the hold of that sum in a sandbox is worth. -/
noncomputable def Try.pinned : Pinned := { name := "ytbgfijnadfeleaa", sum := "adf6546a9ef0b8e1443d2083972659dbe7882524099cc0b6bc2facf9ca3e1014", checked := Try.checked }
namespace Rows
def none {H : Type} : Left H := { results := [], args := [] }

/-- 'threshinglaw01.CnfValues': WHATEVER THE INPUT: true; the input reads as it did. -/
def cnfValuesSpec : ChangeSpec := { name := "cnfValues", fn := fun _ => fun
  | [d1, d2] => { results := [.lit (.bool true)], args := [d1, d2] }
  | _ => none }
def cnfValuesRow : OpenClaim := { program := "ytbgfijnadfeleaa", sum := "adf6546a9ef0b8e1443d2083972659dbe7882524099cc0b6bc2facf9ca3e1014", func := "threshing/threshinglaw01.CnfValues", spec := "cnfValues", unfollowed := true, recurses := true, apart := false }
def CnfValuesSaid : Prop := cnfValuesRow.holds Try.pinned (OpenSpec.ofChange cnfValuesSpec)

/-- ITS FALSE NEIGHBOUR: 'it returns false'. Refute it at one input. -/
def cnfValuesWrong : ChangeSpec := { name := "cnfValues", fn := fun _ => fun
  | [d1, d2] => { results := [.lit (.bool false)], args := [d1, d2] }
  | _ => none }
def CnfValuesWrongFalsely : Prop := cnfValuesRow.holds Try.pinned (OpenSpec.ofChange cnfValuesWrong)

/-- 'threshinglaw01.CnfClauses': WHATEVER THE INPUT: true; the input reads as it did. -/
def cnfClausesSpec : ChangeSpec := { name := "cnfClauses", fn := fun _ => fun
  | [d1, d2, d3] => { results := [.lit (.bool true)], args := [d1, d2, d3] }
  | _ => none }
def cnfClausesRow : OpenClaim := { program := "ytbgfijnadfeleaa", sum := "adf6546a9ef0b8e1443d2083972659dbe7882524099cc0b6bc2facf9ca3e1014", func := "threshing/threshinglaw01.CnfClauses", spec := "cnfClauses", unfollowed := true, recurses := true, apart := false }
def CnfClausesSaid : Prop := cnfClausesRow.holds Try.pinned (OpenSpec.ofChange cnfClausesSpec)

/-- ITS FALSE NEIGHBOUR: 'it returns false'. Refute it at one input. -/
def cnfClausesWrong : ChangeSpec := { name := "cnfClauses", fn := fun _ => fun
  | [d1, d2, d3] => { results := [.lit (.bool false)], args := [d1, d2, d3] }
  | _ => none }
def CnfClausesWrongFalsely : Prop := cnfClausesRow.holds Try.pinned (OpenSpec.ofChange cnfClausesWrong)

/-- 'threshinglaw01.CnfNormal': WHATEVER THE INPUT: true; the input reads as it did. -/
def cnfNormalSpec : ChangeSpec := { name := "cnfNormal", fn := fun _ => fun
  | [d1, d2] => { results := [.lit (.bool true)], args := [d1, d2] }
  | _ => none }
def cnfNormalRow : OpenClaim := { program := "ytbgfijnadfeleaa", sum := "adf6546a9ef0b8e1443d2083972659dbe7882524099cc0b6bc2facf9ca3e1014", func := "threshing/threshinglaw01.CnfNormal", spec := "cnfNormal", unfollowed := true, recurses := true, apart := false }
def CnfNormalSaid : Prop := cnfNormalRow.holds Try.pinned (OpenSpec.ofChange cnfNormalSpec)

/-- ITS FALSE NEIGHBOUR: 'it returns false'. Refute it at one input. -/
def cnfNormalWrong : ChangeSpec := { name := "cnfNormal", fn := fun _ => fun
  | [d1, d2] => { results := [.lit (.bool false)], args := [d1, d2] }
  | _ => none }
def CnfNormalWrongFalsely : Prop := cnfNormalRow.holds Try.pinned (OpenSpec.ofChange cnfNormalWrong)

/-- 'threshinglaw01.CnfResolves': WHATEVER THE INPUT: true; the input reads as it did. -/
def cnfResolvesSpec : ChangeSpec := { name := "cnfResolves", fn := fun _ => fun
  | [d1, d2, d3, d4] => { results := [.lit (.bool true)], args := [d1, d2, d3, d4] }
  | _ => none }
def cnfResolvesRow : OpenClaim := { program := "ytbgfijnadfeleaa", sum := "adf6546a9ef0b8e1443d2083972659dbe7882524099cc0b6bc2facf9ca3e1014", func := "threshing/threshinglaw01.CnfResolves", spec := "cnfResolves", unfollowed := true, recurses := true, apart := false }
def CnfResolvesSaid : Prop := cnfResolvesRow.holds Try.pinned (OpenSpec.ofChange cnfResolvesSpec)

/-- ITS FALSE NEIGHBOUR: 'it returns false'. Refute it at one input. -/
def cnfResolvesWrong : ChangeSpec := { name := "cnfResolves", fn := fun _ => fun
  | [d1, d2, d3, d4] => { results := [.lit (.bool false)], args := [d1, d2, d3, d4] }
  | _ => none }
def CnfResolvesWrongFalsely : Prop := cnfResolvesRow.holds Try.pinned (OpenSpec.ofChange cnfResolvesWrong)

/-- 'threshinglaw01.CnfRights': WHATEVER THE INPUT: true; the input reads as it did. -/
def cnfRightsSpec : ChangeSpec := { name := "cnfRights", fn := fun _ => fun
  | [d1, d2] => { results := [.lit (.bool true)], args := [d1, d2] }
  | _ => none }
def cnfRightsRow : OpenClaim := { program := "ytbgfijnadfeleaa", sum := "adf6546a9ef0b8e1443d2083972659dbe7882524099cc0b6bc2facf9ca3e1014", func := "threshing/threshinglaw01.CnfRights", spec := "cnfRights", unfollowed := true, recurses := true, apart := false }
def CnfRightsSaid : Prop := cnfRightsRow.holds Try.pinned (OpenSpec.ofChange cnfRightsSpec)

/-- ITS FALSE NEIGHBOUR: 'it returns false'. Refute it at one input. -/
def cnfRightsWrong : ChangeSpec := { name := "cnfRights", fn := fun _ => fun
  | [d1, d2] => { results := [.lit (.bool false)], args := [d1, d2] }
  | _ => none }
def CnfRightsWrongFalsely : Prop := cnfRightsRow.holds Try.pinned (OpenSpec.ofChange cnfRightsWrong)

/-- 'threshinglaw01.CnfKnown': WHATEVER THE INPUT: true; the input reads as it did. -/
def cnfKnownSpec : ChangeSpec := { name := "cnfKnown", fn := fun _ => fun
  | [] => { results := [.lit (.bool true)], args := [] }
  | _ => none }
def cnfKnownRow : OpenClaim := { program := "ytbgfijnadfeleaa", sum := "adf6546a9ef0b8e1443d2083972659dbe7882524099cc0b6bc2facf9ca3e1014", func := "threshing/threshinglaw01.CnfKnown", spec := "cnfKnown", unfollowed := true, recurses := true, apart := false }
def CnfKnownSaid : Prop := cnfKnownRow.holds Try.pinned (OpenSpec.ofChange cnfKnownSpec)

/-- ITS FALSE NEIGHBOUR: 'it returns false'. Refute it at one input. -/
def cnfKnownWrong : ChangeSpec := { name := "cnfKnown", fn := fun _ => fun
  | [] => { results := [.lit (.bool false)], args := [] }
  | _ => none }
def CnfKnownWrongFalsely : Prop := cnfKnownRow.holds Try.pinned (OpenSpec.ofChange cnfKnownWrong)

/- THE SECOND FORM. 'bulk': how many values and letters a reading holds, each counted each time it is reached (what is shared counts as often as it is met; a slice's spare places count too). A statement '..UptoSaid' is the law's where the arguments, and the package variables that the reading takes, are together of bulk at most 1048576: NARROWER than '..Said'. Prove '..Said' where nothing that the law and all that it calls make is longer than what came in: it says more and counts as full. Else prove '..UptoSaid'. A law counts once. -/
mutual
def uptoBulk {H : Type} : DataW H → Nat
  | .lit (.string bytes) => bytes.length + 1
  | .lit _ => 1
  | .nil => 1
  | .ptr d => uptoBulk d + 1
  | .slice elems spare => uptoBulkAll elems + uptoBulkAll spare + 1
  | .agg parts => uptoBulkAll parts + 1
  | .iface _ d => uptoBulk d + 1
  | .map entries => uptoBulkEntries entries + 1
  | .held _ => 1
def uptoBulkAll {H : Type} : List (DataW H) → Nat
  | [] => 0
  | d :: r => uptoBulk d + uptoBulkAll r
def uptoBulkEntries {H : Type} : List (Lit × DataW H) → Nat
  | [] => 0
  | x :: r => uptoBulkEntry x + uptoBulkEntries r
def uptoBulkEntry {H : Type} : Lit × DataW H → Nat
  | (.string bytes, d) => bytes.length + uptoBulk d + 1
  | (_, d) => uptoBulk d + 1
 end
def uptoSmall : (H : Type) → List (DataW H) → Bool := fun _ ds => decide (uptoBulkAll ds ≤ 1048576)
def OpenSpec.upto (s : _root_.Go.ChangeSpec) : _root_.Go.OpenSpec := { _root_.Go.OpenSpec.ofChange s with cond := some uptoSmall }

/-- 'threshinglaw01.CnfValues', WHERE WHAT IT READS IS OF BULK AT MOST 1048576: true; the input reads as it did. -/
def cnfValuesUptoRow : OpenClaim := { program := "ytbgfijnadfeleaa", sum := "adf6546a9ef0b8e1443d2083972659dbe7882524099cc0b6bc2facf9ca3e1014", func := "threshing/threshinglaw01.CnfValues", spec := "cnfValues", unfollowed := true, recurses := true, apart := false, narrowed := true }
def CnfValuesUptoSaid : Prop := cnfValuesUptoRow.holds Try.pinned (OpenSpec.upto cnfValuesSpec)

/-- 'threshinglaw01.CnfClauses', WHERE WHAT IT READS IS OF BULK AT MOST 1048576: true; the input reads as it did. -/
def cnfClausesUptoRow : OpenClaim := { program := "ytbgfijnadfeleaa", sum := "adf6546a9ef0b8e1443d2083972659dbe7882524099cc0b6bc2facf9ca3e1014", func := "threshing/threshinglaw01.CnfClauses", spec := "cnfClauses", unfollowed := true, recurses := true, apart := false, narrowed := true }
def CnfClausesUptoSaid : Prop := cnfClausesUptoRow.holds Try.pinned (OpenSpec.upto cnfClausesSpec)

/-- 'threshinglaw01.CnfNormal', WHERE WHAT IT READS IS OF BULK AT MOST 1048576: true; the input reads as it did. -/
def cnfNormalUptoRow : OpenClaim := { program := "ytbgfijnadfeleaa", sum := "adf6546a9ef0b8e1443d2083972659dbe7882524099cc0b6bc2facf9ca3e1014", func := "threshing/threshinglaw01.CnfNormal", spec := "cnfNormal", unfollowed := true, recurses := true, apart := false, narrowed := true }
def CnfNormalUptoSaid : Prop := cnfNormalUptoRow.holds Try.pinned (OpenSpec.upto cnfNormalSpec)

/-- 'threshinglaw01.CnfResolves', WHERE WHAT IT READS IS OF BULK AT MOST 1048576: true; the input reads as it did. -/
def cnfResolvesUptoRow : OpenClaim := { program := "ytbgfijnadfeleaa", sum := "adf6546a9ef0b8e1443d2083972659dbe7882524099cc0b6bc2facf9ca3e1014", func := "threshing/threshinglaw01.CnfResolves", spec := "cnfResolves", unfollowed := true, recurses := true, apart := false, narrowed := true }
def CnfResolvesUptoSaid : Prop := cnfResolvesUptoRow.holds Try.pinned (OpenSpec.upto cnfResolvesSpec)

/-- 'threshinglaw01.CnfRights', WHERE WHAT IT READS IS OF BULK AT MOST 1048576: true; the input reads as it did. -/
def cnfRightsUptoRow : OpenClaim := { program := "ytbgfijnadfeleaa", sum := "adf6546a9ef0b8e1443d2083972659dbe7882524099cc0b6bc2facf9ca3e1014", func := "threshing/threshinglaw01.CnfRights", spec := "cnfRights", unfollowed := true, recurses := true, apart := false, narrowed := true }
def CnfRightsUptoSaid : Prop := cnfRightsUptoRow.holds Try.pinned (OpenSpec.upto cnfRightsSpec)

/-- 'threshinglaw01.CnfKnown', WHERE WHAT IT READS IS OF BULK AT MOST 1048576: true; the input reads as it did. -/
def cnfKnownUptoRow : OpenClaim := { program := "ytbgfijnadfeleaa", sum := "adf6546a9ef0b8e1443d2083972659dbe7882524099cc0b6bc2facf9ca3e1014", func := "threshing/threshinglaw01.CnfKnown", spec := "cnfKnown", unfollowed := true, recurses := true, apart := false, narrowed := true }
def CnfKnownUptoSaid : Prop := cnfKnownUptoRow.holds Try.pinned (OpenSpec.upto cnfKnownSpec)

end Rows
end Go.Proofs.Ytbgfijnadfeleaa
