/-
  No cell of these rows narrows 'for every input' (looked for: loops, veiled, ifaces, maps, wideKeys, modest, calm, conditions, laid).
  DERIVED. THE GIVEN ROWS OF THIS SEAT. 7 by the template 'for every input the law returns true; each argument reads behind the call as it read before'; 0 by the template 'total and deterministic' (their statements: YtfpohiflpemkjaaTotals.lean).
  GIVEN WITH THE SEED: the statements are not yours to turn. If you find one false, say at which input.
  Laid BY PROGRAM, IN A SANDBOX (cutbox-rows.mjs): the forced cells as the released guide's own fill.sh prints them over the translation fa5ea418ae67fa1b… (all of the seat's roots in one cut). By AI agents, Wed Nov 11 2026. No macro, syntax, notation, axiom, sorry.
-/
import Derived.Test.YtfpohiflpemkjaaChecked
import GoSem.Claim
import GoSem.ClaimJoined
import GoSem.ClaimMapViews
import Derived.JoinedTies
import Derived.KernelRfl
namespace Go.Proofs.Ytfpohiflpemkjaa
/- THE CELL 'sum', in the pinned program and in every row, IS THE sha256 OF THE DUMP (.gsa) THAT YtfpohiflpemkjaaProg.lean LOADS. Nothing in Lean hashes anything: it is a label: what it is worth is what the hold of that sum in a sandbox is worth. -/
noncomputable def Try.pinned : Pinned := { name := "ytfpohiflpemkjaa", sum := "fa5ea418ae67fa1baf81032b2095734067b80699daae21880ca0b2bea34e5602", checked := Try.checked }
namespace Rows
def none {H : Type} : Left H := { results := [], args := [] }

/-- 'threshinglaw08.ExtendPlays': WHATEVER THE INPUT: true; the input reads as it did. -/
def extendPlaysSpec : ChangeSpec := { name := "extendPlays", fn := fun _ => fun
  | [d1, d2] => { results := [.lit (.bool true)], args := [d1, d2] }
  | _ => none }
def extendPlaysRow : OpenClaim := { program := "ytfpohiflpemkjaa", sum := "fa5ea418ae67fa1baf81032b2095734067b80699daae21880ca0b2bea34e5602", func := "threshing/threshinglaw08.ExtendPlays", spec := "extendPlays", unfollowed := true, recurses := true, apart := false }
def ExtendPlaysSaid : Prop := extendPlaysRow.holds Try.pinned (OpenSpec.ofChange extendPlaysSpec)

/-- ITS FALSE NEIGHBOUR: 'it returns false'. Refute it at one input. -/
def extendPlaysWrong : ChangeSpec := { name := "extendPlays", fn := fun _ => fun
  | [d1, d2] => { results := [.lit (.bool false)], args := [d1, d2] }
  | _ => none }
def ExtendPlaysWrongFalsely : Prop := extendPlaysRow.holds Try.pinned (OpenSpec.ofChange extendPlaysWrong)

/-- 'threshinglaw08.ExtendGood': WHATEVER THE INPUT: true; the input reads as it did. -/
def extendGoodSpec : ChangeSpec := { name := "extendGood", fn := fun _ => fun
  | [d1, d2, d3] => { results := [.lit (.bool true)], args := [d1, d2, d3] }
  | _ => none }
def extendGoodRow : OpenClaim := { program := "ytfpohiflpemkjaa", sum := "fa5ea418ae67fa1baf81032b2095734067b80699daae21880ca0b2bea34e5602", func := "threshing/threshinglaw08.ExtendGood", spec := "extendGood", unfollowed := true, recurses := true, apart := false }
def ExtendGoodSaid : Prop := extendGoodRow.holds Try.pinned (OpenSpec.ofChange extendGoodSpec)

/-- ITS FALSE NEIGHBOUR: 'it returns false'. Refute it at one input. -/
def extendGoodWrong : ChangeSpec := { name := "extendGood", fn := fun _ => fun
  | [d1, d2, d3] => { results := [.lit (.bool false)], args := [d1, d2, d3] }
  | _ => none }
def ExtendGoodWrongFalsely : Prop := extendGoodRow.holds Try.pinned (OpenSpec.ofChange extendGoodWrong)

/-- 'threshinglaw08.ExtendKnown': WHATEVER THE INPUT: true; the input reads as it did. -/
def extendKnownSpec : ChangeSpec := { name := "extendKnown", fn := fun _ => fun
  | [] => { results := [.lit (.bool true)], args := [] }
  | _ => none }
def extendKnownRow : OpenClaim := { program := "ytfpohiflpemkjaa", sum := "fa5ea418ae67fa1baf81032b2095734067b80699daae21880ca0b2bea34e5602", func := "threshing/threshinglaw08.ExtendKnown", spec := "extendKnown", unfollowed := true, recurses := true, apart := false }
def ExtendKnownSaid : Prop := extendKnownRow.holds Try.pinned (OpenSpec.ofChange extendKnownSpec)

/-- ITS FALSE NEIGHBOUR: 'it returns false'. Refute it at one input. -/
def extendKnownWrong : ChangeSpec := { name := "extendKnown", fn := fun _ => fun
  | [] => { results := [.lit (.bool false)], args := [] }
  | _ => none }
def ExtendKnownWrongFalsely : Prop := extendKnownRow.holds Try.pinned (OpenSpec.ofChange extendKnownWrong)

/-- 'threshinglaw03.TruthFinds': WHATEVER THE INPUT: true; the input reads as it did. -/
def truthFindsSpec : ChangeSpec := { name := "truthFinds", fn := fun _ => fun
  | [d] => { results := [.lit (.bool true)], args := [d] }
  | _ => none }
def truthFindsRow : OpenClaim := { program := "ytfpohiflpemkjaa", sum := "fa5ea418ae67fa1baf81032b2095734067b80699daae21880ca0b2bea34e5602", func := "threshing/threshinglaw03.TruthFinds", spec := "truthFinds", unfollowed := true, recurses := true, apart := false }
def TruthFindsSaid : Prop := truthFindsRow.holds Try.pinned (OpenSpec.ofChange truthFindsSpec)

/-- ITS FALSE NEIGHBOUR: 'it returns false'. Refute it at one input. -/
def truthFindsWrong : ChangeSpec := { name := "truthFinds", fn := fun _ => fun
  | [d] => { results := [.lit (.bool false)], args := [d] }
  | _ => none }
def TruthFindsWrongFalsely : Prop := truthFindsRow.holds Try.pinned (OpenSpec.ofChange truthFindsWrong)

/-- 'threshinglaw03.TruthImplies': WHATEVER THE INPUT: true; the input reads as it did. -/
def truthImpliesSpec : ChangeSpec := { name := "truthImplies", fn := fun _ => fun
  | [d1, d2, d3] => { results := [.lit (.bool true)], args := [d1, d2, d3] }
  | _ => none }
def truthImpliesRow : OpenClaim := { program := "ytfpohiflpemkjaa", sum := "fa5ea418ae67fa1baf81032b2095734067b80699daae21880ca0b2bea34e5602", func := "threshing/threshinglaw03.TruthImplies", spec := "truthImplies", unfollowed := true, recurses := true, apart := false }
def TruthImpliesSaid : Prop := truthImpliesRow.holds Try.pinned (OpenSpec.ofChange truthImpliesSpec)

/-- ITS FALSE NEIGHBOUR: 'it returns false'. Refute it at one input. -/
def truthImpliesWrong : ChangeSpec := { name := "truthImplies", fn := fun _ => fun
  | [d1, d2, d3] => { results := [.lit (.bool false)], args := [d1, d2, d3] }
  | _ => none }
def TruthImpliesWrongFalsely : Prop := truthImpliesRow.holds Try.pinned (OpenSpec.ofChange truthImpliesWrong)

/-- 'threshinglaw03.TruthGrows': WHATEVER THE INPUT: true; the input reads as it did. -/
def truthGrowsSpec : ChangeSpec := { name := "truthGrows", fn := fun _ => fun
  | [d1, d2] => { results := [.lit (.bool true)], args := [d1, d2] }
  | _ => none }
def truthGrowsRow : OpenClaim := { program := "ytfpohiflpemkjaa", sum := "fa5ea418ae67fa1baf81032b2095734067b80699daae21880ca0b2bea34e5602", func := "threshing/threshinglaw03.TruthGrows", spec := "truthGrows", unfollowed := true, recurses := true, apart := false }
def TruthGrowsSaid : Prop := truthGrowsRow.holds Try.pinned (OpenSpec.ofChange truthGrowsSpec)

/-- ITS FALSE NEIGHBOUR: 'it returns false'. Refute it at one input. -/
def truthGrowsWrong : ChangeSpec := { name := "truthGrows", fn := fun _ => fun
  | [d1, d2] => { results := [.lit (.bool false)], args := [d1, d2] }
  | _ => none }
def TruthGrowsWrongFalsely : Prop := truthGrowsRow.holds Try.pinned (OpenSpec.ofChange truthGrowsWrong)

/-- 'threshinglaw03.TruthKnown': WHATEVER THE INPUT: true; the input reads as it did. -/
def truthKnownSpec : ChangeSpec := { name := "truthKnown", fn := fun _ => fun
  | [] => { results := [.lit (.bool true)], args := [] }
  | _ => none }
def truthKnownRow : OpenClaim := { program := "ytfpohiflpemkjaa", sum := "fa5ea418ae67fa1baf81032b2095734067b80699daae21880ca0b2bea34e5602", func := "threshing/threshinglaw03.TruthKnown", spec := "truthKnown", unfollowed := true, recurses := true, apart := false }
def TruthKnownSaid : Prop := truthKnownRow.holds Try.pinned (OpenSpec.ofChange truthKnownSpec)

/-- ITS FALSE NEIGHBOUR: 'it returns false'. Refute it at one input. -/
def truthKnownWrong : ChangeSpec := { name := "truthKnown", fn := fun _ => fun
  | [] => { results := [.lit (.bool false)], args := [] }
  | _ => none }
def TruthKnownWrongFalsely : Prop := truthKnownRow.holds Try.pinned (OpenSpec.ofChange truthKnownWrong)

/- THE SECOND FORM. 'bulk': how many values and letters a reading holds, each counted each time it is reached (what is shared counts as often as it is met; a slice's spare places count too). A statement '..UptoSaid' is the law's where the arguments, and the package variables that the reading takes, are together of bulk at most 1048576: NARROWER than '..Said'. Prove '..Said' where nothing that the law and all that it calls make is longer than what came in: it says more and counts as full. Else prove '..UptoSaid'. A law counts once. -/
mutual
def uptoBulk {H : Type} : DataW H → Nat
  | .lit (.string bytes) => bytes.length + 1
  | .lit _ => 1
  | .nil => 1
  | .ptr d => uptoBulk d + 1
  | .slice elems spare => uptoBulkAll elems + uptoBulkAll spare + 1
  | .agg parts => uptoBulkAll parts + 1
  | .iface _ d => uptoBulk d + 1
  | .map entries => uptoBulkEntries entries + 1
  | .held _ => 1
def uptoBulkAll {H : Type} : List (DataW H) → Nat
  | [] => 0
  | d :: r => uptoBulk d + uptoBulkAll r
def uptoBulkEntries {H : Type} : List (Lit × DataW H) → Nat
  | [] => 0
  | x :: r => uptoBulkEntry x + uptoBulkEntries r
def uptoBulkEntry {H : Type} : Lit × DataW H → Nat
  | (.string bytes, d) => bytes.length + uptoBulk d + 1
  | (_, d) => uptoBulk d + 1
 end
def uptoSmall : (H : Type) → List (DataW H) → Bool := fun _ ds => decide (uptoBulkAll ds ≤ 1048576)
def OpenSpec.upto (s : _root_.Go.ChangeSpec) : _root_.Go.OpenSpec := { _root_.Go.OpenSpec.ofChange s with cond := some uptoSmall }

/-- 'threshinglaw08.ExtendPlays', WHERE WHAT IT READS IS OF BULK AT MOST 1048576: true; the input reads as it did. -/
def extendPlaysUptoRow : OpenClaim := { program := "ytfpohiflpemkjaa", sum := "fa5ea418ae67fa1baf81032b2095734067b80699daae21880ca0b2bea34e5602", func := "threshing/threshinglaw08.ExtendPlays", spec := "extendPlays", unfollowed := true, recurses := true, apart := false, narrowed := true }
def ExtendPlaysUptoSaid : Prop := extendPlaysUptoRow.holds Try.pinned (OpenSpec.upto extendPlaysSpec)

/-- 'threshinglaw08.ExtendGood', WHERE WHAT IT READS IS OF BULK AT MOST 1048576: true; the input reads as it did. -/
def extendGoodUptoRow : OpenClaim := { program := "ytfpohiflpemkjaa", sum := "fa5ea418ae67fa1baf81032b2095734067b80699daae21880ca0b2bea34e5602", func := "threshing/threshinglaw08.ExtendGood", spec := "extendGood", unfollowed := true, recurses := true, apart := false, narrowed := true }
def ExtendGoodUptoSaid : Prop := extendGoodUptoRow.holds Try.pinned (OpenSpec.upto extendGoodSpec)

/-- 'threshinglaw08.ExtendKnown', WHERE WHAT IT READS IS OF BULK AT MOST 1048576: true; the input reads as it did. -/
def extendKnownUptoRow : OpenClaim := { program := "ytfpohiflpemkjaa", sum := "fa5ea418ae67fa1baf81032b2095734067b80699daae21880ca0b2bea34e5602", func := "threshing/threshinglaw08.ExtendKnown", spec := "extendKnown", unfollowed := true, recurses := true, apart := false, narrowed := true }
def ExtendKnownUptoSaid : Prop := extendKnownUptoRow.holds Try.pinned (OpenSpec.upto extendKnownSpec)

/-- 'threshinglaw03.TruthFinds', WHERE WHAT IT READS IS OF BULK AT MOST 1048576: true; the input reads as it did. -/
def truthFindsUptoRow : OpenClaim := { program := "ytfpohiflpemkjaa", sum := "fa5ea418ae67fa1baf81032b2095734067b80699daae21880ca0b2bea34e5602", func := "threshing/threshinglaw03.TruthFinds", spec := "truthFinds", unfollowed := true, recurses := true, apart := false, narrowed := true }
def TruthFindsUptoSaid : Prop := truthFindsUptoRow.holds Try.pinned (OpenSpec.upto truthFindsSpec)

/-- 'threshinglaw03.TruthImplies', WHERE WHAT IT READS IS OF BULK AT MOST 1048576: true; the input reads as it did. -/
def truthImpliesUptoRow : OpenClaim := { program := "ytfpohiflpemkjaa", sum := "fa5ea418ae67fa1baf81032b2095734067b80699daae21880ca0b2bea34e5602", func := "threshing/threshinglaw03.TruthImplies", spec := "truthImplies", unfollowed := true, recurses := true, apart := false, narrowed := true }
def TruthImpliesUptoSaid : Prop := truthImpliesUptoRow.holds Try.pinned (OpenSpec.upto truthImpliesSpec)

/-- 'threshinglaw03.TruthGrows', WHERE WHAT IT READS IS OF BULK AT MOST 1048576: true; the input reads as it did. -/
def truthGrowsUptoRow : OpenClaim := { program := "ytfpohiflpemkjaa", sum := "fa5ea418ae67fa1baf81032b2095734067b80699daae21880ca0b2bea34e5602", func := "threshing/threshinglaw03.TruthGrows", spec := "truthGrows", unfollowed := true, recurses := true, apart := false, narrowed := true }
def TruthGrowsUptoSaid : Prop := truthGrowsUptoRow.holds Try.pinned (OpenSpec.upto truthGrowsSpec)

/-- 'threshinglaw03.TruthKnown', WHERE WHAT IT READS IS OF BULK AT MOST 1048576: true; the input reads as it did. -/
def truthKnownUptoRow : OpenClaim := { program := "ytfpohiflpemkjaa", sum := "fa5ea418ae67fa1baf81032b2095734067b80699daae21880ca0b2bea34e5602", func := "threshing/threshinglaw03.TruthKnown", spec := "truthKnown", unfollowed := true, recurses := true, apart := false, narrowed := true }
def TruthKnownUptoSaid : Prop := truthKnownUptoRow.holds Try.pinned (OpenSpec.upto truthKnownSpec)

end Rows
end Go.Proofs.Ytfpohiflpemkjaa
