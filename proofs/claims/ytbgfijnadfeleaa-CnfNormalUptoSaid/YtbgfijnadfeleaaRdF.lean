/- Formulas, rows of ints that came in as data. Plain theorems, no condition. -/
import Derived.Test.YtbgfijnadfeleaaRdC
namespace Go.Proofs.Ytbgfijnadfeleaa.RdC
open Go.RowKit Go.Proofs.Ytbgfijnadfeleaa.Mem Go.Proofs.Ytbgfijnadfeleaa.Sl Go.Proofs.Ytbgfijnadfeleaa.Cl Go.Proofs.Ytbgfijnadfeleaa.Rdr
set_option linter.unusedVariables false

def formR := seq (int .i64) (seq (slice (slice (int .i32))) unit)
theorem form_of {w : World} {a : Array Value} {x : Int × (SlV × List (SlV × List Int)) × Unit} (h : formR.rel w a.toList x) :
    ∃ (A : Option Addr) (n c : Nat), a = #[.int .i64 x.1, .slice A n c] ∧ ClsOk w.heap.size w A n (x.2.1.2.map cvOf) ∧ (A = none → c = 0) ∧ -9223372036854775808 ≤ x.1 ∧ x.1 ≤ 9223372036854775807 := by
  obtain ⟨c1, c2, e1, _, _, ⟨q1, q2⟩, c3, c4, e2, _, _, q3, q4⟩ := h
  have q5 := q3.1
  rw [q5] at q3
  obtain ⟨k1, k2⟩ := cls_of q3
  refine ⟨x.2.1.1.A, x.2.1.1.n, x.2.1.1.c, ?_, k1, k2, ?_⟩
  · have : a.toList = [.int .i64 x.1, .slice x.2.1.1.A x.2.1.1.n x.2.1.1.c] := by
      rw [e1, e2, q1, q5, show c4 = [] from q4]; rfl
    rw [← Array.toArray_toList (xs := a), this]
  · simp only [Lit.wf, Bool.and_eq_true, decide_eq_true_eq] at q2
    exact q2
theorem i64s_of {w : World} {A : Option Addr} {n c : Nat} {x : SlV × List Int} (h : (slice (int .i64)).rel w [.slice A n c] x) : n = x.2.length ∧ n ≤ 9223372036854775807 ∧ RdB w.heap.size w A (x.2.map (Value.int .i64)) ∧ ∀ y, y ∈ x.2 → -9223372036854775808 ≤ y ∧ y ≤ 9223372036854775807 := by
  obtain ⟨h1, h2, h3, h4, h5, h6⟩ := h
  injection h1 with h1 _
  injection h1 with hA hn hc
  rw [← hA] at h5 h6
  rw [← hn] at h2 h3
  rw [← hc] at h3 h4 h5
  refine ⟨h2.symm, Nat.le_trans h3 (Nat.le_trans h4 max_ok), RdB.of (cells_of (r := int .i64) (enc := Value.int .i64) (fun _ _ _ h => h.1) rfl h2 h3 h5 h6), fun y hy => ?_⟩
  obtain ⟨i, hi, rfl⟩ := List.getElem_of_mem hy
  have hi' : i < x.2.length := hi
  rcases hA' : A with _ | a
  · have := h5 hA'; omega
  · obtain ⟨cs', _, _, _, q⟩ := h6 a hA' i (x.2[i]'hi') (List.getElem?_eq_getElem hi')
    simp only [Lit.wf, Bool.and_eq_true, decide_eq_true_eq] at q
    exact q
end Go.Proofs.Ytbgfijnadfeleaa.RdC
