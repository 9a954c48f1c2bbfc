/- A stack of witnesses that came in as data. Plain theorems, no condition. -/
import Derived.Test.YtfpohiflpemkjaaRdC
import Derived.Test.YtfpohiflpemkjaaExW
namespace Go.Proofs.Ytfpohiflpemkjaa.RdC
open Go.RowKit Go.Proofs.Ytfpohiflpemkjaa.Mem Go.Proofs.Ytfpohiflpemkjaa.Sl Go.Proofs.Ytfpohiflpemkjaa.Cl Go.Proofs.Ytfpohiflpemkjaa.Rdr Go.Proofs.Ytfpohiflpemkjaa.Ex
set_option linter.unusedVariables false

def witR := seq (slice (int .i32)) (seq (slice (int .i32)) unit)
def wvOf (x : (SlV × List Int) × (SlV × List Int) × Unit) : WV := ⟨cvOf x.1, cvOf x.2.1⟩
theorem wt_of {w : World} {A : Option Addr} {n c : Nat} {x : SlV × List ((SlV × List Int) × (SlV × List Int) × Unit)} (h : (slice witR).rel w [.slice A n c] x) : WtOk w.heap.size w A n (x.2.map wvOf) := by
  obtain ⟨h1, h2, h3, h4, h5, h6⟩ := h
  injection h1 with h1 _
  injection h1 with hA hn hc
  rw [← hA] at h5 h6
  rw [← hn] at h2 h3
  rw [← hc] at h3 h4 h5
  have key : ∀ a, A = some a → ∀ i y, x.2[i]? = some y → (∀ j, j < 2 → w.cell? ((a.add (i * 2)).add j) = [(wvOf y).l.v, (wvOf y).c.v][j]?) ∧ ClOk w.heap.size w (wvOf y).l ∧ ClOk w.heap.size w (wvOf y).c := fun a ha i y hy => by
    obtain ⟨cs, k1, k2, c1, c2, e1, _, _, q1, c3, c4, e2, _, _, q2, q3⟩ := h6 a ha i y hy
    have e3 : cs = [(cvOf y.1).v, (cvOf y.2.1).v] := by
      rw [e1, e2, (cl_rel q1).2.1, (cl_rel q2).2.1, show c4 = [] from q3]; rfl
    rw [e3] at k2
    exact ⟨k2, (cl_rel q1).1, (cl_rel q2).1⟩
  refine ⟨by simpa using h2.symm, Nat.le_trans h3 (Nat.le_trans h4 max_ok), fun hp => ?_, fun y hy => ?_⟩
  · rw [List.length_map] at hp
    rcases A with _ | a
    · have := h5 rfl; omega
    obtain ⟨b, off, spot⟩ := a
    have h0 : w.cell? ((Addr.add ⟨b, off, spot⟩ (0 * 2)).add 0) = some (wvOf (x.2[0]'hp)).l.v := (key _ rfl 0 (x.2[0]'hp) (by simp [hp])).1 0 (by decide)
    have hspot : spot = none := by simpa [Addr.add] using World.cell?_spot h0
    subst hspot
    refine ⟨b, off, rfl, World.block_lt_of_cell? w _ (by simpa [Addr.add] using h0), fun i v hv => ?_⟩
    rw [List.getElem?_map] at hv
    rcases hy : x.2[i]? with _ | y
    · rw [hy] at hv; cases hv
    · rw [hy] at hv
      have m := (key _ rfl i y hy).1
      have m0 := m 0 (by decide)
      have m1 := m 1 (by decide)
      rw [← Option.some.inj hv]
      simp only [Go.WideShapes.add_plain] at m0 m1
      exact ⟨m0, m1⟩
  · obtain ⟨z, hz, rfl⟩ := List.mem_map.1 hy
    obtain ⟨i, hi, rfl⟩ := List.getElem_of_mem hz
    rcases hA : A with _ | a
    · have := h5 hA; omega
    · exact (key a hA i _ (List.getElem?_eq_getElem hi)).2
end Go.Proofs.Ytfpohiflpemkjaa.RdC
