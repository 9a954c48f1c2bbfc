/- What readers read, in the words of Cl: clauses, models, rows of clauses, stacks of witnesses. Plain theorems, no condition. -/
import Derived.Test.YtbgfijnadfeleaaRdr
import Derived.Test.YtbgfijnadfeleaaLit
namespace Go.Proofs.Ytbgfijnadfeleaa.RdC
open Go.RowKit Go.Proofs.Ytbgfijnadfeleaa.Mem Go.Proofs.Ytbgfijnadfeleaa.Sl Go.Proofs.Ytbgfijnadfeleaa.Cl Go.Proofs.Ytbgfijnadfeleaa.Rdr
set_option linter.unusedVariables false

def cvOf (x : SlV × List Int) : CV := ⟨x.1.A, x.1.n, x.1.c, x.2⟩
theorem max_ok : maxLen ≤ 9223372036854775807 := by decide
/-- One-cell elements. -/
theorem cells_of {α : Type} {r : R α} {enc : α → Value} (hr : ∀ w cs y, r.rel w cs y → cs = [enc y]) (h1 : r.size = 1) {w : World} {A : Option Addr} {n c : Nat} {l : List α} (hl : l.length = n) (hnc : n ≤ c) (hA : A = none → c = 0) (h : ∀ a, A = some a → ∀ (i : Nat) (y : α), l[i]? = some y → At r w (a.add (i * r.size)) y) : RdV w A (l.map enc) := fun hp => by
  rw [List.length_map] at hp
  have hc : ∀ a, A = some a → ∀ (i : Nat) (y : α), l[i]? = some y → w.cell? (a.add i) = some (enc y) := fun a ha i y hy => by
    obtain ⟨cs, k1, k2, k3⟩ := h a ha i y hy
    have := k2 0 (by omega)
    rw [hr _ _ _ k3] at this
    simpa [h1, Addr.add] using this
  rcases A with _ | a
  · have := hA rfl; omega
  obtain ⟨b, off, spot⟩ := a
  have h0 := hc _ rfl 0 (l[0]'hp) (by simp [hp])
  have hspot : spot = none := by simpa [Addr.add] using World.cell?_spot h0
  subst hspot
  refine ⟨b, off, rfl, World.block_lt_of_cell? w _ (by simpa [Addr.add] using h0), fun i v hv => ?_⟩
  rw [List.getElem?_map] at hv
  rcases hy : l[i]? with _ | y
  · rw [hy] at hv; cases hv
  · rw [hy] at hv
    rw [← Option.some.inj hv, ← Go.WideShapes.add_plain]
    exact hc _ rfl i y hy
theorem md_of {w : World} {A : Option Addr} {n c : Nat} {x : SlV × List Bool} (h : (slice Rdr.bool).rel w [.slice A n c] x) : MdOk w.heap.size w A n x.2 ∧ (A = none → c = 0) := by
  obtain ⟨h1, h2, h3, h4, h5, h6⟩ := h
  injection h1 with h1 _
  injection h1 with hA hn hc
  rw [← hA] at h5 h6
  rw [← hn] at h2 h3
  rw [← hc] at h3 h4 h5
  exact ⟨⟨h2.symm, Nat.le_trans h3 (Nat.le_trans h4 max_ok), RdB.of (cells_of (r := Rdr.bool) (enc := Value.bool) (fun _ _ _ h => h) rfl h2 h3 h5 h6)⟩, h5⟩
theorem cl_rel {w : World} {cs : List Value} {x : SlV × List Int} (h : (slice (int .i32)).rel w cs x) : ClOk w.heap.size w (cvOf x) ∧ cs = [(cvOf x).v] ∧ ((cvOf x).A = none → (cvOf x).c = 0) := by
  obtain ⟨h1, h2, h3, h4, h5, h6⟩ := h
  refine ⟨⟨h2.symm, Nat.le_trans h3 (Nat.le_trans h4 max_ok), RdB.of (cells_of (r := int .i32) (enc := Value.int .i32) (fun _ _ _ h => h.1) rfl h2 h3 h5 h6), fun y hy => ?_⟩, h1, h5⟩
  obtain ⟨i, hi, rfl⟩ := List.getElem_of_mem hy
  have hi' : i < x.2.length := hi
  rcases hA : x.1.A with _ | a
  · have := h5 hA; omega
  · obtain ⟨cs', _, _, _, q⟩ := h6 a hA i (x.2[i]'hi') (List.getElem?_eq_getElem hi')
    simp only [Lit.wf, Bool.and_eq_true, decide_eq_true_eq] at q
    exact q
theorem cl_of {w : World} {A : Option Addr} {n c : Nat} {x : SlV × List Int} (h : (slice (int .i32)).rel w [.slice A n c] x) : ClOk w.heap.size w ⟨A, n, c, x.2⟩ ∧ (A = none → c = 0) := by
  obtain ⟨h1, h2, h3⟩ := cl_rel h
  injection h2 with h2 _
  injection h2 with hA hn hc
  subst hA hn hc
  exact ⟨h1, h3⟩
/-- A row of clauses. -/
theorem cls_of {w : World} {A : Option Addr} {n c : Nat} {x : SlV × List (SlV × List Int)} (h : (slice (slice (int .i32))).rel w [.slice A n c] x) : ClsOk w.heap.size w A n (x.2.map cvOf) ∧ (A = none → c = 0) := by
  obtain ⟨h1, h2, h3, h4, h5, h6⟩ := h
  injection h1 with h1 _
  injection h1 with hA hn hc
  rw [← hA] at h5 h6
  rw [← hn] at h2 h3
  rw [← hc] at h3 h4 h5
  refine ⟨⟨by simpa using h2.symm, Nat.le_trans h3 (Nat.le_trans h4 max_ok), ?_, fun y hy => ?_⟩, h5⟩
  · rw [List.map_map]
    exact RdB.of (cells_of (r := slice (int .i32)) (enc := CV.v ∘ cvOf) (fun w cs y h => (cl_rel h).2.1) rfl h2 h3 h5 h6)
  · obtain ⟨z, hz, rfl⟩ := List.mem_map.1 hy
    obtain ⟨i, hi, rfl⟩ := List.getElem_of_mem hz
    rcases hA : A with _ | a
    · have := h5 hA; omega
    · obtain ⟨cs', _, _, q⟩ := h6 a hA i _ (List.getElem?_eq_getElem hi)
      exact (cl_rel q).1
end Go.Proofs.Ytbgfijnadfeleaa.RdC
