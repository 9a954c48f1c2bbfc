/- What readers read: elements of one cell. Plain theorems, no condition. -/
import Derived.Test.YtienomdennbkpaaRdr
import Derived.Test.YtienomdennbkpaaSl
namespace Go.Proofs.Ytienomdennbkpaa.RdC
open Go.RowKit Go.Proofs.Ytienomdennbkpaa.Mem Go.Proofs.Ytienomdennbkpaa.Sl Go.Proofs.Ytienomdennbkpaa.Rdr
set_option linter.unusedVariables false

/-- One-cell elements. -/
theorem cells_of {α : Type} {r : R α} {enc : α → Value} (hr : ∀ w cs y, r.rel w cs y → cs = [enc y]) (h1 : r.size = 1) {w : World} {A : Option Addr} {n c : Nat} {l : List α} (hl : l.length = n) (hnc : n ≤ c) (hA : A = none → c = 0) (h : ∀ a, A = some a → ∀ (i : Nat) (y : α), l[i]? = some y → At r w (a.add (i * r.size)) y) : RdV w A (l.map enc) := fun hp => by
  rw [List.length_map] at hp
  have hc : ∀ a, A = some a → ∀ (i : Nat) (y : α), l[i]? = some y → w.cell? (a.add i) = some (enc y) := fun a ha i y hy => by
    obtain ⟨cs, k1, k2, k3⟩ := h a ha i y hy
    have := k2 0 (by omega)
    rw [hr _ _ _ k3] at this
    simpa [h1, Addr.add] using this
  rcases A with _ | a
  · have := hA rfl; omega
  obtain ⟨b, off, spot⟩ := a
  have h0 := hc _ rfl 0 (l[0]'hp) (by simp [hp])
  have hspot : spot = none := by simpa [Addr.add] using World.cell?_spot h0
  subst hspot
  refine ⟨b, off, rfl, World.block_lt_of_cell? w _ (by simpa [Addr.add] using h0), fun i v hv => ?_⟩
  rw [List.getElem?_map] at hv
  rcases hy : l[i]? with _ | y
  · rw [hy] at hv; cases hv
  · rw [hy] at hv
    rw [← Option.some.inj hv, ← Go.WideShapes.add_plain]
    exact hc _ rfl i y hy
end Go.Proofs.Ytienomdennbkpaa.RdC
