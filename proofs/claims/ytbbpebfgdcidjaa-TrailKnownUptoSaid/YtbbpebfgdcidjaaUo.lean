/- Calls on a trail, as readers with a bound read them. Plain theorems, no condition. -/
import Derived.Test.YtbbpebfgdcidjaaUn
import Derived.Test.YtbbpebfgdcidjaaRdU
namespace Go.Proofs.Ytbbpebfgdcidjaa.Ta
open Go.RowKit Go.Proofs.Ytbbpebfgdcidjaa.Mem Go.Proofs.Ytbbpebfgdcidjaa.Sl Go.Proofs.Ytbbpebfgdcidjaa.Rdr
set_option linter.unusedVariables false

def stU : R (Int × Int × Int × (SlV × List Int) × Unit) := seq (int .i64) (seq (int .i32) (seq (int .i64) (seq (RdU.sliceU (int .i64)) unit)))
theorem stU_sub : RdU.Sub stU stR := (RdU.Sub.refl _).seq ((RdU.Sub.refl _).seq ((RdU.Sub.refl _).seq ((RdU.Sub.slice (RdU.Sub.refl _)).seq (RdU.Sub.refl _))))
theorem stsU_of {w : World} {A : Option Addr} {n c : Nat} {x : SlV × List (Int × Int × Int × (SlV × List Int) × Unit)} (h : (RdU.sliceU stU).rel w [.slice A n c] x) : Sts w.heap.size w A n (x.2.map stOf) ∧ ∀ s, s ∈ x.2.map stOf → s.tn ≤ 1048576 := by
  refine ⟨sts_of ((RdU.Sub.slice stU_sub).2 _ _ _ h), fun s hs => ?_⟩
  obtain ⟨y, hy, rfl⟩ := List.mem_map.1 hs
  obtain ⟨i, hi, rfl⟩ := List.getElem_of_mem hy
  obtain ⟨⟨h1, h2, h3, h4, h5, h6⟩, _⟩ := h
  rcases hA : x.1.A with _ | a
  · have := h5 hA; omega
  · obtain ⟨cs, _, _, hr⟩ := h6 a hA i _ (List.getElem?_eq_getElem hi)
    obtain ⟨c1, c2, e1, _, _, _, c3, c4, e2, _, _, _, c5, c6, e3, _, _, _, c7, c8, e4, _, _, ⟨_, hb⟩, _⟩ := hr
    exact hb
end Go.Proofs.Ytbbpebfgdcidjaa.Ta
