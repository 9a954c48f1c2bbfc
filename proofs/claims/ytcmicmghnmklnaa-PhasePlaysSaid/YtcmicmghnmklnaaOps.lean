/- Rows of calls that came in as data: []Op, an Op being a number of kind u8, an int, and a slice of int32. Plain theorems, no condition. -/
import Derived.Test.YtcmicmghnmklnaaRdr
import Derived.Test.YtcmicmghnmklnaaSl
namespace Go.Proofs.Ytcmicmghnmklnaa.Ops
open Go.RowKit Go.Proofs.Ytcmicmghnmklnaa.Mem Go.Proofs.Ytcmicmghnmklnaa.Sl Go.Proofs.Ytcmicmghnmklnaa.Rdr
set_option linter.unusedVariables false

structure Op3 where
  kind : Int
  v : Int
  A : Option Addr
  n : Nat
  c : Nat
  l : List Int
structure OkAt (B : Nat) (w : World) (b off : Nat) (o : Op3) : Prop where
  k : w.cell? ⟨b, off, none⟩ = some (.int .u8 o.kind)
  k0 : 0 ≤ o.kind
  k1 : o.kind ≤ 255
  v : w.cell? ⟨b, off + 1, none⟩ = some (.int .i64 o.v)
  v0 : -9223372036854775808 ≤ o.v
  v1 : o.v ≤ 9223372036854775807
  s : w.cell? ⟨b, off + 2, none⟩ = some (.slice o.A o.n o.c)
  n : o.n = o.l.length
  m : o.n ≤ 9223372036854775807
  rd : RdB B w o.A (o.l.map (Value.int .i32))
/-- A row of calls, all that it leads to below B. -/
def Ops (B : Nat) (w : World) (a : Option Addr) (ops : List Op3) : Prop :=
  0 < ops.length → ∃ b off, a = some ⟨b, off, none⟩ ∧ b < B ∧ ∀ i o, ops[i]? = some o → OkAt B w b (off + i * 3) o
theorem Ops.below {B : Nat} {w w' : World} {a : Option Addr} {ops : List Op3} (h : Ops B w a ops) (hb : Below B w w') : Ops B w' a ops := fun hp => by
  obtain ⟨b, off, rfl, hx, hc⟩ := h hp
  exact ⟨b, off, rfl, hx, fun i o hi => by
    have h := hc i o hi
    exact ⟨(hb.cell (p := ⟨b, off + i * 3, none⟩) hx).trans h.k, h.k0, h.k1, (hb.cell (p := ⟨b, off + i * 3 + 1, none⟩) hx).trans h.v, h.v0, h.v1, (hb.cell (p := ⟨b, off + i * 3 + 2, none⟩) hx).trans h.s, h.n, h.m, h.rd.below hb⟩⟩
def opR := seq (int .u8) (seq (int .i64) (seq (slice (int .i32)) unit))
def opOf (x : Int × Int × (SlV × List Int) × Unit) : Op3 := ⟨x.1, x.2.1, x.2.2.1.1.A, x.2.2.1.1.n, x.2.2.1.1.c, x.2.2.1.2⟩
theorem ints_of {w : World} {A : Option Addr} {n c : Nat} {l : List Int} (hl : l.length = n) (hnc : n ≤ c) (hA : A = none → c = 0) (h : ∀ a, A = some a → ∀ (i : Nat) (y : Int), l[i]? = some y → At (int .i32) w (a.add (i * (int .i32).size)) y) : RdV w A (l.map (Value.int .i32)) := fun hp => by
  rw [List.length_map] at hp
  have hc : ∀ a, A = some a → ∀ (i : Nat) (y : Int), l[i]? = some y → w.cell? (a.add i) = some (.int .i32 y) := fun a ha i y hy => by
    obtain ⟨cs, h1, h2, h3, _⟩ := h a ha i y hy
    have := h2 0 (by simp [int])
    rw [h3] at this
    simpa [int, Addr.add] using this
  rcases A with _ | a
  · have := hA rfl; omega
  obtain ⟨b, off, spot⟩ := a
  have h0 := hc _ rfl 0 (l.getD 0 0) (by simp [List.getD_eq_getElem?_getD, hp])
  have hspot : spot = none := by simpa [Addr.add] using World.cell?_spot h0
  subst hspot
  refine ⟨b, off, rfl, World.block_lt_of_cell? w _ (by simpa [Addr.add] using h0), fun i v hv => ?_⟩
  rw [List.getElem?_map] at hv
  rcases hy : l[i]? with _ | y
  · rw [hy] at hv; cases hv
  · rw [hy] at hv
    rw [← Option.some.inj hv, ← Go.WideShapes.add_plain]
    exact hc _ rfl i y hy
theorem ops_of {w : World} {A : Option Addr} {n c : Nat} {x : SlV × List (Int × Int × (SlV × List Int) × Unit)} (h : (slice opR).rel w [.slice A n c] x) : Ops w.heap.size w A (x.2.map opOf) ∧ (x.2.map opOf).length = n ∧ n ≤ 9223372036854775807 := by
  obtain ⟨h1, h2, h3, h4, h5, h6⟩ := h
  injection h1 with h1 _
  injection h1 with hA hn hc
  rw [← hA] at h5 h6
  rw [← hn] at h2 h3
  rw [← hc] at h3 h4 h5
  refine ⟨fun hp => ?_, by simpa using h2, Nat.le_trans h3 (Nat.le_trans h4 (by decide))⟩
  rw [List.length_map] at hp
  rcases A with _ | a
  · have := h5 rfl; omega
  obtain ⟨b, off, spot⟩ := a
  have hcell : ∀ (i : Nat) y, x.2[i]? = some y → ∃ cs, cs.length = 3 ∧ (∀ j, j < 3 → w.cell? (((⟨b, off, spot⟩ : Addr).add (i * 3)).add j) = cs[j]?) ∧ opR.rel w cs y := fun i y hy => h6 _ rfl i y hy
  have hspot : spot = none := by
    obtain ⟨cs, k1, k2, _⟩ := hcell 0 (x.2[0]) (by simp [hp])
    have h0 := k2 0 (by omega)
    rw [show cs[0]? = some cs[0] by simp [k1]] at h0
    simpa [Addr.add] using World.cell?_spot h0
  subst hspot
  refine ⟨b, off, rfl, ?_, fun i o ho => ?_⟩
  · obtain ⟨cs, k1, k2, _⟩ := hcell 0 (x.2[0]) (by simp [hp])
    have h0 := k2 0 (by omega)
    rw [show cs[0]? = some cs[0] by simp [k1]] at h0
    exact World.block_lt_of_cell? w _ (by simpa [Addr.add] using h0)
  · rw [List.getElem?_map] at ho
    rcases hy : x.2[i]? with _ | y
    · rw [hy] at ho; cases ho
    rw [hy] at ho
    rw [← Option.some.inj ho]
    obtain ⟨cs, k1, k2, c1, c2, e1, _, _, ⟨r1, q1⟩, c3, c4, e2, _, _, ⟨r2, q2⟩, c5, c6, e3, _, _, ⟨r3, r4, r5, r6, r7, r8⟩, r9⟩ := hcell i y hy
    have e4 : cs = [.int .u8 y.1, .int .i64 y.2.1, .slice y.2.2.1.1.A y.2.2.1.1.n y.2.2.1.1.c] := by
      rw [e1, e2, e3, r1, r2, r3, show c6 = [] from r9]; rfl
    have m0 := k2 0 (by omega)
    have m1 := k2 1 (by omega)
    have m2 := k2 2 (by omega)
    rw [e4] at m0 m1 m2
    simp only [Go.WideShapes.add_plain] at m0 m1 m2
    have w1 : 0 ≤ y.1 ∧ y.1 ≤ 255 := by
      simp only [Lit.wf, Bool.and_eq_true, decide_eq_true_eq] at q1
      exact q1
    have w2 : -9223372036854775808 ≤ y.2.1 ∧ y.2.1 ≤ 9223372036854775807 := by
      simp only [Lit.wf, Bool.and_eq_true, decide_eq_true_eq] at q2
      exact q2
    refine ⟨?_, w1.1, w1.2, ?_, w2.1, w2.2, ?_, r4.symm, Nat.le_trans r5 (Nat.le_trans r6 (by decide)), RdB.of (ints_of r4 r5 r7 r8)⟩
    · simpa [opOf] using m0
    · simpa [opOf] using m1
    · simpa [opOf] using m2
theorem lits_of {w : World} {A : Option Addr} {n c : Nat} {x : SlV × List Int} (h : (slice (int .i32)).rel w [.slice A n c] x) : RdB w.heap.size w A (x.2.map (Value.int .i32)) ∧ n = x.2.length ∧ n ≤ 9223372036854775807 := by
  obtain ⟨h1, h2, h3, h4, h5, h6⟩ := h
  injection h1 with h1 _
  injection h1 with hA hn hc
  rw [← hA] at h5 h6
  rw [← hn] at h2 h3
  rw [← hc] at h3 h4 h5
  exact ⟨RdB.of (ints_of h2 h3 h5 h6), h2.symm, Nat.le_trans h3 (Nat.le_trans h4 (by decide))⟩
end Go.Proofs.Ytcmicmghnmklnaa.Ops
