/- Arguments that came in as data: rows of numbers; []Op, an Op being a number of kind u8 and two ints. Plain theorems, no condition. -/
import Derived.Test.YtienomdennbkpaaRdB
import Derived.Test.YtienomdennbkpaaSl
namespace Go.Proofs.Ytienomdennbkpaa.OpH
open Go.RowKit Go.Proofs.Ytienomdennbkpaa.Mem Go.Proofs.Ytienomdennbkpaa.Sl Go.Proofs.Ytienomdennbkpaa.Rdr Go.Proofs.Ytienomdennbkpaa.RdC
set_option linter.unusedVariables false

def I64 (x : Int) : Prop := -9223372036854775808 ≤ x ∧ x ≤ 9223372036854775807
theorem ints_of {w : World} {A : Option Addr} {n c : Nat} {l : List Int} (hl : l.length = n) (hnc : n ≤ c) (hA : A = none → c = 0) (h : ∀ a, A = some a → ∀ (i : Nat) (y : Int), l[i]? = some y → At (int .i64) w (a.add (i * 1)) y) : RdV w A (l.map (Value.int .i64)) ∧ ∀ x, x ∈ l → I64 x := by
  refine ⟨cells_of (r := int .i64) (enc := Value.int .i64) (fun w cs y hh => hh.1) rfl hl hnc hA h, fun x hx => ?_⟩
  obtain ⟨i, hi, rfl⟩ := List.getElem_of_mem hx
  rcases A with _ | a
  · have := hA rfl; omega
  · obtain ⟨cs, _, _, _, q⟩ := h a rfl i _ (List.getElem?_eq_getElem hi)
    simp only [Lit.wf, Bool.and_eq_true, decide_eq_true_eq] at q
    exact q
theorem ints_arg {w : World} {A : Option Addr} {n c : Nat} {x : SlV × List Int} (h : (slice (int .i64)).rel w [.slice A n c] x) : RdB w.heap.size w A (x.2.map (Value.int .i64)) ∧ n = x.2.length ∧ n ≤ 9223372036854775807 ∧ (∀ y, y ∈ x.2 → I64 y) := by
  obtain ⟨h1, h2, h3, h4, h5, h6⟩ := h
  injection h1 with h1 _
  injection h1 with hA hn hc
  rw [← hA] at h5 h6
  rw [← hn] at h2 h3
  rw [← hc] at h3 h4 h5
  obtain ⟨k1, k2⟩ := ints_of h2 h3 h5 h6
  exact ⟨RdB.of k1, h2.symm, Nat.le_trans h3 (Nat.le_trans h4 (by decide)), k2⟩
/-- A call: kind, variable, by how much. -/
structure OV where
  k : Int
  v : Int
  y : Int
structure OVOk (o : OV) : Prop where
  k0 : 0 ≤ o.k
  k1 : o.k ≤ 255
  v1 : I64 o.v
  y1 : I64 o.y
def OVAt (w : World) (b off : Nat) (o : OV) : Prop := w.cell? ⟨b, off, none⟩ = some (.int .u8 o.k) ∧ w.cell? ⟨b, off + 1, none⟩ = some (.int .i64 o.v) ∧ w.cell? ⟨b, off + 2, none⟩ = some (.int .i64 o.y)
def Ops (B : Nat) (w : World) (a : Option Addr) (ops : List OV) : Prop :=
  0 < ops.length → ∃ b off, a = some ⟨b, off, none⟩ ∧ b < B ∧ ∀ i o, ops[i]? = some o → OVAt w b (off + i * 3) o
theorem Ops.below {B : Nat} {w w' : World} {a : Option Addr} {ops : List OV} (h : Ops B w a ops) (hb : Below B w w') : Ops B w' a ops := fun hp => by
  obtain ⟨b, off, rfl, hx, hc⟩ := h hp
  exact ⟨b, off, rfl, hx, fun i o hi => by
    have h := hc i o hi
    exact ⟨(hb.cell (p := ⟨b, off + i * 3, none⟩) hx).trans h.1, (hb.cell (p := ⟨b, off + i * 3 + 1, none⟩) hx).trans h.2.1, (hb.cell (p := ⟨b, off + i * 3 + 2, none⟩) hx).trans h.2.2⟩⟩
theorem Ops.at_ {B : Nat} {w : World} {a : Option Addr} {ops : List OV} (h : Ops B w a ops) {k : Nat} (hk : k < ops.length) : ∃ b off, a = some ⟨b, off, none⟩ ∧ b < B ∧ OVAt w b (off + k * 3) ops[k] := by
  obtain ⟨b, off, e, hx, hc⟩ := h (by omega)
  exact ⟨b, off, e, hx, hc k _ (List.getElem?_eq_getElem hk)⟩
abbrev OX := Int × Int × Int × Unit
def opR : R OX := seq (int .u8) (seq (int .i64) (seq (int .i64) unit))
def opOf (x : OX) : OV := ⟨x.1, x.2.1, x.2.2.1⟩
theorem ops_of {w : World} {A : Option Addr} {n c : Nat} {x : SlV × List OX} (h : (slice opR).rel w [.slice A n c] x) : Ops w.heap.size w A (x.2.map opOf) ∧ (x.2.map opOf).length = n ∧ n ≤ 9223372036854775807 ∧ ∀ o, o ∈ x.2.map opOf → OVOk o := by
  obtain ⟨h1, h2, h3, h4, h5, h6⟩ := h
  injection h1 with h1 _
  injection h1 with hA hn hc
  rw [← hA] at h5 h6
  rw [← hn] at h2 h3
  rw [← hc] at h3 h4 h5
  have hall : ∀ a, A = some a → ∀ (i : Nat) y, x.2[i]? = some y → ∃ cs, cs.length = 3 ∧ (∀ j, j < 3 → w.cell? ((a.add (i * 3)).add j) = cs[j]?) ∧ opR.rel w cs y := fun a ha i y hy => h6 _ ha i y hy
  have hone : ∀ a, A = some a → ∀ (i : Nat) y, x.2[i]? = some y → (w.cell? ((a.add (i * 3)).add 0) = some (.int .u8 y.1) ∧ w.cell? ((a.add (i * 3)).add 1) = some (.int .i64 y.2.1) ∧ w.cell? ((a.add (i * 3)).add 2) = some (.int .i64 y.2.2.1)) ∧ OVOk (opOf y) := fun a ha i y hy => by
    obtain ⟨cs, k1, k2, c1, c2, e1, _, _, ⟨r1, q1⟩, c3, c4, e2, _, _, ⟨r2, q2⟩, c5, c6, e3, _, _, ⟨r3, q3⟩, r9⟩ := hall a ha i y hy
    have e4 : cs = [.int .u8 y.1, .int .i64 y.2.1, .int .i64 y.2.2.1] := by
      rw [e1, e2, e3, r1, r2, r3, show c6 = [] from r9]; rfl
    have m0 := k2 0 (by omega)
    have m1 := k2 1 (by omega)
    have m2 := k2 2 (by omega)
    rw [e4] at m0 m1 m2
    simp only [Lit.wf, Bool.and_eq_true, decide_eq_true_eq] at q1 q2 q3
    exact ⟨⟨m0, m1, m2⟩, q1.1, q1.2, q2, q3⟩
  refine ⟨fun hp => ?_, by simpa using h2, Nat.le_trans h3 (Nat.le_trans h4 (by decide)), fun o ho => ?_⟩
  · rw [List.length_map] at hp
    rcases A with _ | a
    · have := h5 rfl; omega
    obtain ⟨b, off, spot⟩ := a
    have h0 := (hone _ rfl 0 (x.2[0]) (by simp [hp])).1.1
    have hspot : spot = none := by simpa [Addr.add] using World.cell?_spot h0
    subst hspot
    refine ⟨b, off, rfl, World.block_lt_of_cell? w _ (by simpa [Addr.add] using h0), fun i o ho => ?_⟩
    rw [List.getElem?_map] at ho
    rcases hy : x.2[i]? with _ | y
    · rw [hy] at ho; cases ho
    rw [hy] at ho
    rw [← Option.some.inj ho]
    obtain ⟨⟨m0, m1, m2⟩, _⟩ := hone _ rfl i y hy
    simp only [Go.WideShapes.add_plain] at m0 m1 m2
    exact ⟨m0, m1, m2⟩
  · obtain ⟨y, hy, rfl⟩ := List.mem_map.1 ho
    obtain ⟨i, hi, rfl⟩ := List.getElem_of_mem hy
    rcases hA2 : A with _ | a
    · have := h5 hA2; omega
    · exact (hone a hA2 i _ (List.getElem?_eq_getElem hi)).2
end Go.Proofs.Ytienomdennbkpaa.OpH
