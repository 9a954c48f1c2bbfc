/- Rows of calls that came in as data: []Op, an Op being a number of kind u8, a slice of ints, and a slice of bools. Plain theorems, no condition. -/
import Derived.Test.YtgldhnjbodmbbaaRdB
import Derived.Test.YtgldhnjbodmbbaaSl
namespace Go.Proofs.Ytgldhnjbodmbbaa.OpQ
open Go.RowKit Go.Proofs.Ytgldhnjbodmbbaa.Mem Go.Proofs.Ytgldhnjbodmbbaa.Sl Go.Proofs.Ytgldhnjbodmbbaa.Rdr Go.Proofs.Ytgldhnjbodmbbaa.RdC
set_option linter.unusedVariables false

structure OQ where
  kind : Int
  A : Option Addr
  n : Nat
  c : Nat
  l : List Int
  S : Option Addr
  k : Nat
  d : Nat
  s : List Bool
def I64 (x : Int) : Prop := -9223372036854775808 ≤ x ∧ x ≤ 9223372036854775807
structure OkAt (B : Nat) (w : World) (b off : Nat) (o : OQ) : Prop where
  k : w.cell? ⟨b, off, none⟩ = some (.int .u8 o.kind)
  k0 : 0 ≤ o.kind
  k1 : o.kind ≤ 255
  s1 : w.cell? ⟨b, off + 1, none⟩ = some (.slice o.A o.n o.c)
  s2 : w.cell? ⟨b, off + 2, none⟩ = some (.slice o.S o.k o.d)
  n1 : o.n = o.l.length
  n2 : o.k = o.s.length
  m1 : o.n ≤ 9223372036854775807
  m2 : o.k ≤ 9223372036854775807
  r1 : RdB B w o.A (o.l.map (Value.int .i64))
  r2 : RdB B w o.S (o.s.map Value.bool)
structure Pure (o : OQ) : Prop where
  li : ∀ x, x ∈ o.l → I64 x
  nl : o.A = none → o.c = 0
  ns : o.S = none → o.d = 0
def Ops (B : Nat) (w : World) (a : Option Addr) (ops : List OQ) : Prop :=
  0 < ops.length → ∃ b off, a = some ⟨b, off, none⟩ ∧ b < B ∧ ∀ i o, ops[i]? = some o → OkAt B w b (off + i * 3) o
theorem Ops.below {B : Nat} {w w' : World} {a : Option Addr} {ops : List OQ} (h : Ops B w a ops) (hb : Below B w w') : Ops B w' a ops := fun hp => by
  obtain ⟨b, off, rfl, hx, hc⟩ := h hp
  exact ⟨b, off, rfl, hx, fun i o hi => by
    have h := hc i o hi
    exact ⟨(hb.cell (p := ⟨b, off + i * 3, none⟩) hx).trans h.k, h.k0, h.k1, (hb.cell (p := ⟨b, off + i * 3 + 1, none⟩) hx).trans h.s1, (hb.cell (p := ⟨b, off + i * 3 + 2, none⟩) hx).trans h.s2, h.n1, h.n2, h.m1, h.m2, h.r1.below hb, h.r2.below hb⟩⟩
def opR := seq (int .u8) (seq (slice (int .i64)) (seq (slice bool) unit))
abbrev OX := Int × (SlV × List Int) × (SlV × List Bool) × Unit
def opOf (x : OX) : OQ := ⟨x.1, x.2.1.1.A, x.2.1.1.n, x.2.1.1.c, x.2.1.2, x.2.2.1.1.A, x.2.2.1.1.n, x.2.2.1.1.c, x.2.2.1.2⟩
theorem ints_of {w : World} {A : Option Addr} {n c : Nat} {l : List Int} (hl : l.length = n) (hnc : n ≤ c) (hA : A = none → c = 0) (h : ∀ a, A = some a → ∀ (i : Nat) (y : Int), l[i]? = some y → At (int .i64) w (a.add (i * (int .i64).size)) y) : RdV w A (l.map (Value.int .i64)) ∧ ∀ x, x ∈ l → I64 x := by
  refine ⟨cells_of (r := int .i64) (enc := Value.int .i64) (fun w cs y hh => hh.1) rfl hl hnc hA h, fun x hx => ?_⟩
  obtain ⟨i, hi, rfl⟩ := List.getElem_of_mem hx
  rcases A with _ | a
  · have := hA rfl; omega
  · obtain ⟨cs, _, _, _, q⟩ := h a rfl i _ (List.getElem?_eq_getElem hi)
    simp only [Lit.wf, Bool.and_eq_true, decide_eq_true_eq] at q
    exact q
theorem bools_of {w : World} {A : Option Addr} {n c : Nat} {l : List Bool} (hl : l.length = n) (hnc : n ≤ c) (hA : A = none → c = 0) (h : ∀ a, A = some a → ∀ (i : Nat) (y : Bool), l[i]? = some y → At bool w (a.add (i * bool.size)) y) : RdV w A (l.map Value.bool) :=
  cells_of (r := bool) (enc := Value.bool) (fun w cs y hh => hh) rfl hl hnc hA h
theorem ops_of {w : World} {A : Option Addr} {n c : Nat} {x : SlV × List OX} (h : (slice opR).rel w [.slice A n c] x) : Ops w.heap.size w A (x.2.map opOf) ∧ (x.2.map opOf).length = n ∧ n ≤ 9223372036854775807 ∧ ∀ o, o ∈ x.2.map opOf → Pure o := by
  obtain ⟨h1, h2, h3, h4, h5, h6⟩ := h
  injection h1 with h1 _
  injection h1 with hA hn hc
  rw [← hA] at h5 h6
  rw [← hn] at h2 h3
  rw [← hc] at h3 h4 h5
  have hall : ∀ a, A = some a → ∀ (i : Nat) y, x.2[i]? = some y → ∃ cs, cs.length = 3 ∧ (∀ j, j < 3 → w.cell? ((a.add (i * 3)).add j) = cs[j]?) ∧ opR.rel w cs y := fun a ha i y hy => h6 _ ha i y hy
  have hone : ∀ a, A = some a → ∀ (i : Nat) y, x.2[i]? = some y → (w.cell? ((a.add (i * 3)).add 0) = some (.int .u8 y.1) ∧ w.cell? ((a.add (i * 3)).add 1) = some (.slice y.2.1.1.A y.2.1.1.n y.2.1.1.c) ∧ w.cell? ((a.add (i * 3)).add 2) = some (.slice y.2.2.1.1.A y.2.2.1.1.n y.2.2.1.1.c)) ∧ (0 ≤ y.1 ∧ y.1 ≤ 255) ∧ y.2.1.1.n = y.2.1.2.length ∧ y.2.2.1.1.n = y.2.2.1.2.length ∧ y.2.1.1.n ≤ 9223372036854775807 ∧ y.2.2.1.1.n ≤ 9223372036854775807 ∧ RdV w y.2.1.1.A (y.2.1.2.map (Value.int .i64)) ∧ RdV w y.2.2.1.1.A (y.2.2.1.2.map Value.bool) ∧ Pure (opOf y) := fun a ha i y hy => by
    obtain ⟨cs, k1, k2, c1, c2, e1, _, _, ⟨r1, q1⟩, c3, c4, e2, _, _, ⟨r2, r3, r4, r5, r6, r7⟩, c5, c6, e3, _, _, ⟨s2, s3, s4, s5, s6, s7⟩, r9⟩ := hall a ha i y hy
    have e4 : cs = [.int .u8 y.1, .slice y.2.1.1.A y.2.1.1.n y.2.1.1.c, .slice y.2.2.1.1.A y.2.2.1.1.n y.2.2.1.1.c] := by
      rw [e1, e2, e3, r1, r2, s2, show c6 = [] from r9]; rfl
    have m0 := k2 0 (by omega)
    have m1 := k2 1 (by omega)
    have m2 := k2 2 (by omega)
    rw [e4] at m0 m1 m2
    have w1 : 0 ≤ y.1 ∧ y.1 ≤ 255 := by
      simp only [Lit.wf, Bool.and_eq_true, decide_eq_true_eq] at q1
      exact q1
    obtain ⟨i1, i2⟩ := ints_of r3 r4 r6 r7
    exact ⟨⟨m0, m1, m2⟩, w1, r3.symm, s3.symm, Nat.le_trans r4 (Nat.le_trans r5 (by decide)), Nat.le_trans s4 (Nat.le_trans s5 (by decide)), i1, bools_of s3 s4 s6 s7, i2, r6, s6⟩
  refine ⟨fun hp => ?_, by simpa using h2, Nat.le_trans h3 (Nat.le_trans h4 (by decide)), fun o ho => ?_⟩
  · rw [List.length_map] at hp
    rcases A with _ | a
    · have := h5 rfl; omega
    obtain ⟨b, off, spot⟩ := a
    have h0 := (hone _ rfl 0 (x.2[0]) (by simp [hp])).1.1
    have hspot : spot = none := by simpa [Addr.add] using World.cell?_spot h0
    subst hspot
    refine ⟨b, off, rfl, World.block_lt_of_cell? w _ (by simpa [Addr.add] using h0), fun i o ho => ?_⟩
    rw [List.getElem?_map] at ho
    rcases hy : x.2[i]? with _ | y
    · rw [hy] at ho; cases ho
    rw [hy] at ho
    rw [← Option.some.inj ho]
    obtain ⟨⟨m0, m1, m2⟩, w1, n1, n2, l1, l2, rd1, rd2, _⟩ := hone _ rfl i y hy
    simp only [Go.WideShapes.add_plain] at m0 m1 m2
    refine ⟨?_, w1.1, w1.2, ?_, ?_, n1, n2, l1, l2, RdB.of rd1, RdB.of rd2⟩
    · simpa [opOf] using m0
    · simpa [opOf] using m1
    · simpa [opOf] using m2
  · obtain ⟨y, hy, rfl⟩ := List.mem_map.1 ho
    obtain ⟨i, hi, rfl⟩ := List.getElem_of_mem hy
    rcases A with _ | a
    · have := h5 rfl; omega
    · exact (hone _ rfl i _ (List.getElem?_eq_getElem hi)).2.2.2.2.2.2.2.2
end Go.Proofs.Ytgldhnjbodmbbaa.OpQ
