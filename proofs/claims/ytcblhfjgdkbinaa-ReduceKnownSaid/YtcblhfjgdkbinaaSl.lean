/- Slices of numbers and of bools that are read, and rows that the call owns and writes. Plain theorems, no condition. -/
import Derived.Test.YtcblhfjgdkbinaaMem
import Derived.WideShapes
namespace Go.Proofs.Ytcblhfjgdkbinaa.Sl
open Go.RowKit Go.Proofs.Ytcblhfjgdkbinaa.Mem

/-- A slice whose elements (one cell each) can be read; nil and empty ones too. -/
def RdV (w : World) (a : Option Addr) (vs : List Value) : Prop :=
  0 < vs.length → ∃ b off, a = some ⟨b, off, none⟩ ∧ b < w.heap.size ∧ ∀ i v, vs[i]? = some v → w.cell? ⟨b, off + i, none⟩ = some v
theorem RdV.below {w w' : World} {a : Option Addr} {vs : List Value} (h : RdV w a vs) (hb : Below w.heap.size w w') : RdV w' a vs := fun hp => by
  obtain ⟨b, off, rfl, hx, hc⟩ := h hp
  exact ⟨b, off, rfl, Nat.lt_of_lt_of_le hx hb.size, fun i v hi => (hb.cell (p := ⟨b, off + i, none⟩) hx).trans (hc i v hi)⟩
/-- .. below a number of blocks that a call leaves alone. -/
def RdB (B : Nat) (w : World) (a : Option Addr) (vs : List Value) : Prop :=
  0 < vs.length → ∃ b off, a = some ⟨b, off, none⟩ ∧ b < B ∧ ∀ i v, vs[i]? = some v → w.cell? ⟨b, off + i, none⟩ = some v
theorem RdB.of {w : World} {a : Option Addr} {vs : List Value} (h : RdV w a vs) : RdB w.heap.size w a vs := h
theorem RdB.below {B : Nat} {w w' : World} {a : Option Addr} {vs : List Value} (h : RdB B w a vs) (hb : Below B w w') : RdB B w' a vs := fun hp => by
  obtain ⟨b, off, rfl, hx, hc⟩ := h hp
  exact ⟨b, off, rfl, hx, fun i v hi => (hb.cell (p := ⟨b, off + i, none⟩) hx).trans (hc i v hi)⟩
theorem RdB.rd {B : Nat} {w : World} {a : Option Addr} {vs : List Value} (h : RdB B w a vs) (hB : B ≤ w.heap.size) : RdV w a vs := fun hp => by
  obtain ⟨b, off, rfl, hx, hc⟩ := h hp
  exact ⟨b, off, rfl, by omega, hc⟩
theorem RdV.mod {S : Nat → Prop} {w w' : World} {a : Option Addr} {vs : List Value} (h : RdV w a vs) (hm : Mod S w w') (hS : ∀ b off, a = some ⟨b, off, none⟩ → ¬ S b) : RdV w' a vs := fun hp => by
  obtain ⟨b, off, rfl, hx, hc⟩ := h hp
  exact ⟨b, off, rfl, Nat.lt_of_lt_of_le hx hm.size, fun i v hi => (World.cell?_of_block (hm.block b hx (hS b off rfl))).trans (hc i v hi)⟩
theorem RdV.nil (w : World) (a : Option Addr) : RdV w a [] := fun hp => absurd hp (by simp)
theorem RdV.drewN {w : World} {a : Option Addr} {vs : List Value} (h : RdV w a vs) (n : Nat) : RdV (w.drewN n) a vs := h
theorem RdV.blk {w : World} {g : Nat} {t : TypeId} {vs rest : List Value} (h : Blk w g t (vs ++ rest).toArray) : RdV w (some ⟨g, 0, none⟩) vs := fun _ =>
  ⟨g, 0, rfl, h.lt, fun i v hi => by
    rw [Nat.zero_add, h.cell i]
    have hlt : i < vs.length := (List.getElem?_eq_some_iff.1 hi).1
    simpa [List.getElem?_append_left hlt] using hi⟩
theorem RdV.take {w : World} {a : Option Addr} {vs : List Value} (h : RdV w a vs) (k : Nat) : RdV w a (vs.take k) := fun hp => by
  obtain ⟨b, off, rfl, hx, hc⟩ := h (by simp at hp; omega)
  exact ⟨b, off, rfl, hx, fun i v hi => hc i v (by
    rw [List.getElem?_take] at hi
    split at hi
    · exact hi
    · cases hi)⟩
/-- An element's cell, in the walk's own spelling. -/
theorem RdV.at_ {w : World} {a : Option Addr} {vs : List Value} (h : RdV w a vs) {k : Nat} {v : Value} (hk : vs[k]? = some v) : ∃ b off, a = some ⟨b, off, none⟩ ∧ b < w.heap.size ∧ w.cell? ⟨b, off + k, none⟩ = some v := by
  obtain ⟨b, off, rfl, hx, hc⟩ := h (by have := (List.getElem?_eq_some_iff.1 hk).1; omega)
  exact ⟨b, off, rfl, hx, hc k v hk⟩
theorem ints_at {k : IntKind} {l : List Int} {i : Nat} (h : i < l.length) : (l.map (Value.int k))[i]? = some (.int k (l.getD i 0)) := by
  simp [List.getD_eq_getElem?_getD, h]
theorem bools_at {l : List Bool} {i : Nat} (h : i < l.length) : (l.map Value.bool)[i]? = some (.bool (l.getD i false)) := by
  simp [List.getD_eq_getElem?_getD, h]

/-- A row of the call's own: block g begins with xs. -/
def Row (w : World) (g : Nat) (t : TypeId) (xs : List Value) (cap : Nat) : Prop := ∃ rest, Blk w g t (xs ++ rest).toArray ∧ cap = xs.length + rest.length
section
variable {w w' : World} {g : Nat} {t : TypeId} {xs : List Value} {cap : Nat}
theorem Row.lt (h : Row w g t xs cap) : g < w.heap.size := by obtain ⟨r, h, _⟩ := h; exact h.lt
theorem Row.rd (h : Row w g t xs cap) : RdV w (some ⟨g, 0, none⟩) xs := by obtain ⟨r, h, _⟩ := h; exact RdV.blk h
theorem Row.le (h : Row w g t xs cap) : xs.length ≤ cap := by obtain ⟨r, _, h⟩ := h; omega
theorem Row.cell (h : Row w g t xs cap) {k : Nat} {v : Value} (hk : xs[k]? = some v) : w.cell? ⟨g, k, none⟩ = some v := by
  obtain ⟨r, h, _⟩ := h
  have hlt := (List.getElem?_eq_some_iff.1 hk).1
  rw [h.cell k]
  simpa [List.getElem?_append_left hlt] using hk
theorem Row.frozen (h : Row w g t xs cap) (k : Nat) : w.frozen? ⟨g, k, none⟩ = false := by obtain ⟨r, h, _⟩ := h; exact h.frozen k
theorem Row.set_ (h : Row w g t xs cap) (k : Nat) (hk : k < xs.length) (u : Value) : Row (w.setCell ⟨g, k, none⟩ u) g t (xs.set k u) cap := by
  obtain ⟨r, h, hc⟩ := h
  refine ⟨r, ?_, by simpa using hc⟩
  have := h.set_ k u
  simp only [List.setIfInBounds_toArray] at this
  rwa [List.set_append_left _ _ hk] at this
theorem Row.mod {S : Nat → Prop} (h : Row w g t xs cap) (hm : Mod S w w') (hg : ¬ S g) : Row w' g t xs cap := by obtain ⟨r, h, hc⟩ := h; exact ⟨r, h.mod hm hg, hc⟩
theorem Row.below (h : Row w g t xs cap) (hb : Below w.heap.size w w') : Row w' g t xs cap := by obtain ⟨r, h, hc⟩ := h; exact ⟨r, h.below hb, hc⟩
theorem Row.far (h : Row w g t xs cap) {p : Addr} (hp : g ≠ p.block) (u : Value) : Row (w.setCell p u) g t xs cap := by obtain ⟨r, h, hc⟩ := h; exact ⟨r, h.far hp u, hc⟩
theorem Row.alloc (h : Row w g t xs cap) (o : Obj) : Row (w.alloc o) g t xs cap := by obtain ⟨r, h, hc⟩ := h; exact ⟨r, h.alloc o, hc⟩
theorem Row.drewN (h : Row w g t xs cap) (n : Nat) : Row (w.drewN n) g t xs cap := h
theorem Row.new (w : World) (t : TypeId) (xs : List Value) : Row (w.alloc (.cells xs.toArray t)) w.heap.size t xs xs.length := ⟨[], by simpa using Blk.new w t xs.toArray, by simp⟩
theorem Row.ne_blk {g' : Nat} {t' : TypeId} {cs : Array Value} (h : Row w g t xs cap) (h' : Blk w g' t' cs) (hne : t ≠ t') : g ≠ g' := by obtain ⟨r, h, _⟩ := h; exact h.ne_ h' hne
theorem Row.ne_row {g' : Nat} {t' : TypeId} {ys : List Value} {cap' : Nat} (h : Row w g t xs cap) (h' : Row w g' t' ys cap') (hne : t ≠ t') : g ≠ g' := by
  obtain ⟨r, h', _⟩ := h'; exact h.ne_blk h' hne
theorem Row.full (h : Row w g t xs xs.length) : Blk w g t xs.toArray := by
  obtain ⟨r, h, hc⟩ := h
  obtain rfl : r = [] := List.eq_nil_of_length_eq_zero (by omega)
  simpa using h
theorem Row.of_own {base n : Nat} {v : Value} (h : w.ownsRow base t 1 v n xs) (hne : v ≠ .slice none 0 0) : ∃ g cap, v = .slice (some ⟨g, 0, none⟩) n cap ∧ base ≤ g ∧ Row w g t xs cap := by
  rcases h.2 with ⟨rfl, _⟩ | ⟨g, cap, cur, rfl, hb, hh, hn, _, hs, hp⟩
  · exact absurd rfl hne
  · refine ⟨g, cap, rfl, hb, cur.toList.drop n, ?_, ?_⟩
    · unfold Blk
      rw [← hp, Nat.mul_one, List.take_append_drop, Array.toArray_toList]
      exact hh
    · have := h.1
      have h2 : cur.toList.length = cur.size := Array.length_toList
      rw [List.length_drop]
      have h3 : n ≤ cap := by assumption
      omega
theorem Row.own {base n : Nat} (h : Row w g t xs cap) (hb : base ≤ g) (hm : cap ≤ maxLen) (hn : n = xs.length) : w.ownsRow base t 1 (.slice (some ⟨g, 0, none⟩) n cap) n xs := by
  obtain ⟨r, h, hc⟩ := h
  exact ⟨by omega, .inr ⟨g, cap, _, rfl, hb, h, by omega, hm, by simp; omega, by simp [hn]⟩⟩
end
end Go.Proofs.Ytcblhfjgdkbinaa.Sl
