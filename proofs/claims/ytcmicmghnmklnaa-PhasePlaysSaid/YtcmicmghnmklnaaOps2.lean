/- What rows of calls are besides, whatever the memory: literals in the range of int32; a nil slice has no room. -/
import Derived.Test.YtcmicmghnmklnaaOps
namespace Go.Proofs.Ytcmicmghnmklnaa.Ops
open Go.RowKit Go.Proofs.Ytcmicmghnmklnaa.Mem Go.Proofs.Ytcmicmghnmklnaa.Sl Go.Proofs.Ytcmicmghnmklnaa.Rdr
set_option linter.unusedVariables false

structure Pure (o : Op3) : Prop where
  lb : ∀ k, k < o.l.length → -2147483648 ≤ o.l.getD k 0 ∧ o.l.getD k 0 ≤ 2147483647
  nil : o.A = none → o.c = 0
theorem ops_pure {w : World} {A : Option Addr} {n c : Nat} {x : SlV × List (Int × Int × (SlV × List Int) × Unit)} (h : (slice opR).rel w [.slice A n c] x) (i : Nat) (o : Op3) (ho : (x.2.map opOf)[i]? = some o) : Pure o := by
  obtain ⟨h1, h2, h3, h4, h5, h6⟩ := h
  rw [List.getElem?_map] at ho
  rcases hy : x.2[i]? with _ | y
  · rw [hy] at ho; cases ho
  rw [hy] at ho
  rw [← Option.some.inj ho]
  have hlt : i < x.2.length := (List.getElem?_eq_some_iff.1 hy).1
  rcases hA : x.1.A with _ | a
  · have := h5 hA; omega
  obtain ⟨cs, k1, k2, c1, c2, e1, _, _, ⟨r1, q1⟩, c3, c4, e2, _, _, ⟨r2, q2⟩, c5, c6, e3, _, _, ⟨r3, r4, r5, r6, r7, r8⟩, r9⟩ := h6 a hA i y hy
  refine ⟨fun k hk => ?_, r7⟩
  rcases hB : y.2.2.1.1.A with _ | b
  · have := r7 hB
    have hk' : k < y.2.2.1.2.length := hk
    omega
  · obtain ⟨cs', _, _, _, q⟩ := r8 b hB k (y.2.2.1.2.getD k 0) (by have hk' : k < y.2.2.1.2.length := hk; simp [List.getD_eq_getElem?_getD, hk'])
    simp only [Lit.wf, Bool.and_eq_true, decide_eq_true_eq] at q
    exact q
end Go.Proofs.Ytcmicmghnmklnaa.Ops
