/-
  No cell of these rows narrows 'for every input' (looked for: loops, veiled, ifaces, maps, wideKeys, modest, calm, conditions, laid).
  DERIVED. THE GIVEN ROWS OF THIS SEAT. 5 by the template 'for every input the law returns true; each argument reads behind the call as it read before'; 0 by the template 'total and deterministic' (their statements: YtcmicmghnmklnaaTotals.lean).
  GIVEN WITH THE SEED: the statements are not yours to turn. If you find one false, say at which input.
  Laid BY PROGRAM, IN A SANDBOX (cutbox-rows.mjs): the forced cells as the released guide's own fill.sh prints them over the translation 1966b9830d665ec7… (all of the seat's roots in one cut). By AI agents, Wed Nov 11 2026. No macro, syntax, notation, axiom, sorry.
-/
import Derived.Test.YtcmicmghnmklnaaChecked
import GoSem.Claim
import GoSem.ClaimJoined
import GoSem.ClaimMapViews
import Derived.JoinedTies
import Derived.KernelRfl
namespace Go.Proofs.Ytcmicmghnmklnaa
/- THE CELL 'sum', in the pinned program and in every row, IS THE sha256 OF THE DUMP (.gsa) THAT YtcmicmghnmklnaaProg.lean LOADS. Nothing in Lean hashes anything: it is a label: what it is worth is what the hold of that sum in a sandbox is worth. -/
noncomputable def Try.pinned : Pinned := { name := "ytcmicmghnmklnaa", sum := "1966b9830d665ec70f50269c5bd95eb1551feb2bffdfe7d1372a995b08663d02", checked := Try.checked }
namespace Rows
def none {H : Type} : Left H := { results := [], args := [] }

/-- 'threshinglaw14.PhaseTargets': WHATEVER THE INPUT: true; the input reads as it did. -/
def phaseTargetsSpec : ChangeSpec := { name := "phaseTargets", fn := fun _ => fun
  | [d1, d2] => { results := [.lit (.bool true)], args := [d1, d2] }
  | _ => none }
def phaseTargetsRow : OpenClaim := { program := "ytcmicmghnmklnaa", sum := "1966b9830d665ec70f50269c5bd95eb1551feb2bffdfe7d1372a995b08663d02", func := "threshing/threshinglaw14.PhaseTargets", spec := "phaseTargets", unfollowed := true, recurses := true, apart := false }
def PhaseTargetsSaid : Prop := phaseTargetsRow.holds Try.pinned (OpenSpec.ofChange phaseTargetsSpec)

/-- ITS FALSE NEIGHBOUR: 'it returns false'. Refute it at one input. -/
def phaseTargetsWrong : ChangeSpec := { name := "phaseTargets", fn := fun _ => fun
  | [d1, d2] => { results := [.lit (.bool false)], args := [d1, d2] }
  | _ => none }
def PhaseTargetsWrongFalsely : Prop := phaseTargetsRow.holds Try.pinned (OpenSpec.ofChange phaseTargetsWrong)

/-- 'threshinglaw14.PhaseSaved': WHATEVER THE INPUT: true; the input reads as it did. -/
def phaseSavedSpec : ChangeSpec := { name := "phaseSaved", fn := fun _ => fun
  | [d1, d2, d3, d4, d5] => { results := [.lit (.bool true)], args := [d1, d2, d3, d4, d5] }
  | _ => none }
def phaseSavedRow : OpenClaim := { program := "ytcmicmghnmklnaa", sum := "1966b9830d665ec70f50269c5bd95eb1551feb2bffdfe7d1372a995b08663d02", func := "threshing/threshinglaw14.PhaseSaved", spec := "phaseSaved", unfollowed := true, recurses := true, apart := false }
def PhaseSavedSaid : Prop := phaseSavedRow.holds Try.pinned (OpenSpec.ofChange phaseSavedSpec)

/-- ITS FALSE NEIGHBOUR: 'it returns false'. Refute it at one input. -/
def phaseSavedWrong : ChangeSpec := { name := "phaseSaved", fn := fun _ => fun
  | [d1, d2, d3, d4, d5] => { results := [.lit (.bool false)], args := [d1, d2, d3, d4, d5] }
  | _ => none }
def PhaseSavedWrongFalsely : Prop := phaseSavedRow.holds Try.pinned (OpenSpec.ofChange phaseSavedWrong)

/-- 'threshinglaw14.PhaseSame': WHATEVER THE INPUT: true; the input reads as it did. -/
def phaseSameSpec : ChangeSpec := { name := "phaseSame", fn := fun _ => fun
  | [d1, d2, d3, d4, d5] => { results := [.lit (.bool true)], args := [d1, d2, d3, d4, d5] }
  | _ => none }
def phaseSameRow : OpenClaim := { program := "ytcmicmghnmklnaa", sum := "1966b9830d665ec70f50269c5bd95eb1551feb2bffdfe7d1372a995b08663d02", func := "threshing/threshinglaw14.PhaseSame", spec := "phaseSame", unfollowed := true, recurses := true, apart := false }
def PhaseSameSaid : Prop := phaseSameRow.holds Try.pinned (OpenSpec.ofChange phaseSameSpec)

/-- ITS FALSE NEIGHBOUR: 'it returns false'. Refute it at one input. -/
def phaseSameWrong : ChangeSpec := { name := "phaseSame", fn := fun _ => fun
  | [d1, d2, d3, d4, d5] => { results := [.lit (.bool false)], args := [d1, d2, d3, d4, d5] }
  | _ => none }
def PhaseSameWrongFalsely : Prop := phaseSameRow.holds Try.pinned (OpenSpec.ofChange phaseSameWrong)

/-- 'threshinglaw14.PhasePlays': WHATEVER THE INPUT: true; the input reads as it did. -/
def phasePlaysSpec : ChangeSpec := { name := "phasePlays", fn := fun _ => fun
  | [d1, d2, d3, d4] => { results := [.lit (.bool true)], args := [d1, d2, d3, d4] }
  | _ => none }
def phasePlaysRow : OpenClaim := { program := "ytcmicmghnmklnaa", sum := "1966b9830d665ec70f50269c5bd95eb1551feb2bffdfe7d1372a995b08663d02", func := "threshing/threshinglaw14.PhasePlays", spec := "phasePlays", unfollowed := true, recurses := true, apart := false }
def PhasePlaysSaid : Prop := phasePlaysRow.holds Try.pinned (OpenSpec.ofChange phasePlaysSpec)

/-- ITS FALSE NEIGHBOUR: 'it returns false'. Refute it at one input. -/
def phasePlaysWrong : ChangeSpec := { name := "phasePlays", fn := fun _ => fun
  | [d1, d2, d3, d4] => { results := [.lit (.bool false)], args := [d1, d2, d3, d4] }
  | _ => none }
def PhasePlaysWrongFalsely : Prop := phasePlaysRow.holds Try.pinned (OpenSpec.ofChange phasePlaysWrong)

/-- 'threshinglaw14.PhaseKnown': WHATEVER THE INPUT: true; the input reads as it did. -/
def phaseKnownSpec : ChangeSpec := { name := "phaseKnown", fn := fun _ => fun
  | [] => { results := [.lit (.bool true)], args := [] }
  | _ => none }
def phaseKnownRow : OpenClaim := { program := "ytcmicmghnmklnaa", sum := "1966b9830d665ec70f50269c5bd95eb1551feb2bffdfe7d1372a995b08663d02", func := "threshing/threshinglaw14.PhaseKnown", spec := "phaseKnown", unfollowed := true, recurses := true, apart := false }
def PhaseKnownSaid : Prop := phaseKnownRow.holds Try.pinned (OpenSpec.ofChange phaseKnownSpec)

/-- ITS FALSE NEIGHBOUR: 'it returns false'. Refute it at one input. -/
def phaseKnownWrong : ChangeSpec := { name := "phaseKnown", fn := fun _ => fun
  | [] => { results := [.lit (.bool false)], args := [] }
  | _ => none }
def PhaseKnownWrongFalsely : Prop := phaseKnownRow.holds Try.pinned (OpenSpec.ofChange phaseKnownWrong)

/- THE SECOND FORM. 'bulk': how many values and letters a reading holds, each counted each time it is reached (what is shared counts as often as it is met; a slice's spare places count too). A statement '..UptoSaid' is the law's where the arguments, and the package variables that the reading takes, are together of bulk at most 1048576: NARROWER than '..Said'. Prove '..Said' where nothing that the law and all that it calls make is longer than what came in: it says more and counts as full. Else prove '..UptoSaid'. A law counts once. -/
mutual
def uptoBulk {H : Type} : DataW H → Nat
  | .lit (.string bytes) => bytes.length + 1
  | .lit _ => 1
  | .nil => 1
  | .ptr d => uptoBulk d + 1
  | .slice elems spare => uptoBulkAll elems + uptoBulkAll spare + 1
  | .agg parts => uptoBulkAll parts + 1
  | .iface _ d => uptoBulk d + 1
  | .map entries => uptoBulkEntries entries + 1
  | .held _ => 1
def uptoBulkAll {H : Type} : List (DataW H) → Nat
  | [] => 0
  | d :: r => uptoBulk d + uptoBulkAll r
def uptoBulkEntries {H : Type} : List (Lit × DataW H) → Nat
  | [] => 0
  | x :: r => uptoBulkEntry x + uptoBulkEntries r
def uptoBulkEntry {H : Type} : Lit × DataW H → Nat
  | (.string bytes, d) => bytes.length + uptoBulk d + 1
  | (_, d) => uptoBulk d + 1
 end
def uptoSmall : (H : Type) → List (DataW H) → Bool := fun _ ds => decide (uptoBulkAll ds ≤ 1048576)
def OpenSpec.upto (s : _root_.Go.ChangeSpec) : _root_.Go.OpenSpec := { _root_.Go.OpenSpec.ofChange s with cond := some uptoSmall }

/-- 'threshinglaw14.PhaseTargets', WHERE WHAT IT READS IS OF BULK AT MOST 1048576: true; the input reads as it did. -/
def phaseTargetsUptoRow : OpenClaim := { program := "ytcmicmghnmklnaa", sum := "1966b9830d665ec70f50269c5bd95eb1551feb2bffdfe7d1372a995b08663d02", func := "threshing/threshinglaw14.PhaseTargets", spec := "phaseTargets", unfollowed := true, recurses := true, apart := false, narrowed := true }
def PhaseTargetsUptoSaid : Prop := phaseTargetsUptoRow.holds Try.pinned (OpenSpec.upto phaseTargetsSpec)

/-- 'threshinglaw14.PhaseSaved', WHERE WHAT IT READS IS OF BULK AT MOST 1048576: true; the input reads as it did. -/
def phaseSavedUptoRow : OpenClaim := { program := "ytcmicmghnmklnaa", sum := "1966b9830d665ec70f50269c5bd95eb1551feb2bffdfe7d1372a995b08663d02", func := "threshing/threshinglaw14.PhaseSaved", spec := "phaseSaved", unfollowed := true, recurses := true, apart := false, narrowed := true }
def PhaseSavedUptoSaid : Prop := phaseSavedUptoRow.holds Try.pinned (OpenSpec.upto phaseSavedSpec)

/-- 'threshinglaw14.PhaseSame', WHERE WHAT IT READS IS OF BULK AT MOST 1048576: true; the input reads as it did. -/
def phaseSameUptoRow : OpenClaim := { program := "ytcmicmghnmklnaa", sum := "1966b9830d665ec70f50269c5bd95eb1551feb2bffdfe7d1372a995b08663d02", func := "threshing/threshinglaw14.PhaseSame", spec := "phaseSame", unfollowed := true, recurses := true, apart := false, narrowed := true }
def PhaseSameUptoSaid : Prop := phaseSameUptoRow.holds Try.pinned (OpenSpec.upto phaseSameSpec)

/-- 'threshinglaw14.PhasePlays', WHERE WHAT IT READS IS OF BULK AT MOST 1048576: true; the input reads as it did. -/
def phasePlaysUptoRow : OpenClaim := { program := "ytcmicmghnmklnaa", sum := "1966b9830d665ec70f50269c5bd95eb1551feb2bffdfe7d1372a995b08663d02", func := "threshing/threshinglaw14.PhasePlays", spec := "phasePlays", unfollowed := true, recurses := true, apart := false, narrowed := true }
def PhasePlaysUptoSaid : Prop := phasePlaysUptoRow.holds Try.pinned (OpenSpec.upto phasePlaysSpec)

/-- 'threshinglaw14.PhaseKnown', WHERE WHAT IT READS IS OF BULK AT MOST 1048576: true; the input reads as it did. -/
def phaseKnownUptoRow : OpenClaim := { program := "ytcmicmghnmklnaa", sum := "1966b9830d665ec70f50269c5bd95eb1551feb2bffdfe7d1372a995b08663d02", func := "threshing/threshinglaw14.PhaseKnown", spec := "phaseKnown", unfollowed := true, recurses := true, apart := false, narrowed := true }
def PhaseKnownUptoSaid : Prop := phaseKnownUptoRow.holds Try.pinned (OpenSpec.upto phaseKnownSpec)

end Rows
end Go.Proofs.Ytcmicmghnmklnaa
