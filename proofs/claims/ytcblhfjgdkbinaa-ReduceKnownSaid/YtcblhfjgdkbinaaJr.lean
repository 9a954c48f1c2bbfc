/- Records that came in as data. Plain theorems, no condition. -/
import Derived.Test.YtcblhfjgdkbinaaJq
import Derived.Test.YtcblhfjgdkbinaaRdr
namespace Go.Proofs.Ytcblhfjgdkbinaa.Re
open Go.RowKit Go.Proofs.Ytcblhfjgdkbinaa.Mem Go.Proofs.Ytcblhfjgdkbinaa.Sl Go.Proofs.Ytcblhfjgdkbinaa.Rdr
set_option linter.unusedVariables false

abbrev itR := seq (int .i64) (seq (int .i64) (seq (int .i64) (seq (int .i64) (seq bool unit))))
def itOf (x : Int × Int × Int × Int × Bool × Unit) : Rc := ⟨x.1, x.2.1, x.2.2.1, x.2.2.2.1, x.2.2.2.2.1⟩
theorem it_cells {w : World} {cs : List Value} {y : Int × Int × Int × Int × Bool × Unit} (h : itR.rel w cs y) : cs = encR (itOf y) := by
  obtain ⟨c1, c2, rfl, _, _, ⟨r1, _⟩, c3, c4, rfl, _, _, ⟨r2, _⟩, c5, c6, rfl, _, _, ⟨r3, _⟩, c7, c8, rfl, _, _, ⟨r4, _⟩, c9, c10, rfl, _, _, r5, r6⟩ := h
  have r5' : c9 = [.bool y.2.2.2.2.1] := r5
  have r6' : c10 = [] := r6
  subst r1 r2 r3 r4 r5' r6'
  rfl
theorem items_of {w : World} {A : Option Addr} {n c : Nat} {x : SlV × List (Int × Int × Int × Int × Bool × Unit)} (h : (slice itR).rel w [.slice A n c] x) : RdV w A (RCs (x.2.map itOf)) ∧ n = (x.2.map itOf).length := by
  obtain ⟨h1, h2, h3, h4, h5, h6⟩ := h
  injection h1 with h1 _
  injection h1 with hA hn hc
  rw [← hA] at h5 h6
  rw [← hn] at h2 h3
  rw [← hc] at h3 h4 h5
  refine ⟨fun hp => ?_, by simpa using h2.symm⟩
  rw [RCs_len, List.length_map] at hp
  have hp' : 0 < x.2.length := by omega
  rcases A with _ | a
  · have := h5 rfl; omega
  obtain ⟨b, off, spot⟩ := a
  have hcell : ∀ (i : Nat) y, x.2[i]? = some y → ∀ j, j < 5 → w.cell? (((⟨b, off, spot⟩ : Addr).add (i * 5)).add j) = (encR (itOf y))[j]? := fun i y hy j hj => by
    obtain ⟨cs, k1, k2, k3⟩ := h6 _ rfl i y hy
    rw [← it_cells k3]
    exact k2 j hj
  have h0 := hcell 0 (x.2[0]) (by simp [hp']) 0 (by decide)
  have h0' : w.cell? (((⟨b, off, spot⟩ : Addr).add (0 * 5)).add 0) = some (.int .i64 (itOf x.2[0]).id) := h0
  have hspot : spot = none := by simpa [Addr.add] using World.cell?_spot h0'
  subst hspot
  refine ⟨b, off, rfl, World.block_lt_of_cell? w _ (by simpa [Addr.add] using h0'), fun t v hv => ?_⟩
  have hl : t < (RCs (x.2.map itOf)).length := (List.getElem?_eq_some_iff.1 hv).1
  rw [RCs_len, List.length_map] at hl
  have hi : t / 5 < x.2.length := by omega
  have e := RCs_at (x.2.map itOf) (t / 5) (t % 5) (by simpa using hi) (Nat.mod_lt _ (by decide))
  rw [show t / 5 * 5 + t % 5 = t by omega, hv] at e
  have hc := hcell (t / 5) (x.2[t / 5]) (by simp [hi]) (t % 5) (Nat.mod_lt _ (by decide))
  rw [Go.WideShapes.add_plain, Go.WideShapes.add_plain, show off + t / 5 * 5 + t % 5 = off + t by omega] at hc
  rw [hc, e]
  congr 1
  rw [getElem!_pos (x.2.map itOf) (t / 5) (by simpa using hi)]
  simp
end Go.Proofs.Ytcblhfjgdkbinaa.Re
