/- How arguments with depth are opened: readers, put together piece by piece; 'Opens' says that what the form reads as data is read by them. Plain theorems, no condition. -/
import Derived.ChangeArms
import Derived.ChangeSlices
import Derived.ChangeSame
import Derived.DataReads
import Derived.Deep.Slices
import Derived.Below
import Derived.Test.YtcblhfjgdkbinaaMem
namespace Go.Proofs.Ytcblhfjgdkbinaa.Rdr
open Go.RowKit Go.Deep

/-- A slice's value, as it stands in its cell. -/
structure SlV where
  A : Option Addr
  n : Nat
  c : Nat
/-- A reader of values that take 'size' cells. -/
structure R (α : Type) where
  size : Nat
  rel : World → List Value → α → Prop

def int (k : IntKind) : R Int := ⟨1, fun _ cs x => cs = [.int k x] ∧ (Lit.int k x).wf = true⟩
def bool : R Bool := ⟨1, fun _ cs x => cs = [.bool x]⟩
/-- The cells from an address on. -/
def At {α : Type} (r : R α) (w : World) (a : Addr) (x : α) : Prop := ∃ cs, cs.length = r.size ∧ (∀ j, j < r.size → w.cell? (a.add j) = cs[j]?) ∧ r.rel w cs x
def slice {α : Type} (r : R α) : R (SlV × List α) := ⟨1, fun w cs x => cs = [.slice x.1.A x.1.n x.1.c] ∧ x.2.length = x.1.n ∧ x.1.n ≤ x.1.c ∧ x.1.c ≤ maxLen ∧
  (x.1.A = none → x.1.c = 0) ∧ (∀ a, x.1.A = some a → ∀ (i : Nat) (y : α), x.2[i]? = some y → At r w (a.add (i * r.size)) y)⟩
def seq {α β : Type} (r : R α) (s : R β) : R (α × β) := ⟨r.size + s.size, fun w cs x => ∃ c1 c2, cs = c1 ++ c2 ∧ c1.length = r.size ∧ c2.length = s.size ∧ r.rel w c1 x.1 ∧ s.rel w c2 x.2⟩
def unit : R Unit := ⟨0, fun _ cs _ => cs = []⟩

section
variable {H : Type} {enc : TypeId × Value → H} {P : Program} {spare : Nat → Bool} {held : Bool}
/-- What the form reads at type t, the reader reads. -/
def Opens (P : Program) (t : TypeId) {α : Type} (r : R α) : Prop :=
  P.cellsOf t = r.size ∧ ∀ (H : Type) (enc : TypeId × Value → H) (w : World) (spare : Nat → Bool) (held : Bool) (fuel : Nat) (cs : List Value) (x : DataW H × List MemPlace),
    DataW.trod enc P w 0 spare held fuel t cs = some x → ∃ a, r.rel w cs a
theorem opens_int {t : TypeId} {k : IntKind} (ht : P.underlying t = some (.int k)) (hc : P.cellsOf t = 1) : Opens P t (int k) :=
  ⟨hc, fun H enc w spare held fuel cs x h => by
    obtain ⟨n, rfl, _, hw⟩ := DataW.trod_int ht h
    exact ⟨n, rfl, hw⟩⟩
theorem opens_bool {t : TypeId} (ht : P.underlying t = some .bool) (hc : P.cellsOf t = 1) : Opens P t bool :=
  ⟨hc, fun H enc w spare held fuel cs x h => by
    obtain ⟨b, rfl, _⟩ := DataW.trod_bool ht h
    exact ⟨b, rfl⟩⟩
theorem at_of_cells {α : Type} {r : R α} {w : World} {a : Addr} {n : Nat} {cs : List Value} (h : w.cells? 0 a n = some cs) (hn : n = r.size) {x : α} (hr : r.rel w cs x) : At r w a x := by
  obtain ⟨_, hl, hc⟩ := World.cells?_some h
  exact ⟨cs, by rw [hl, hn], fun j hj => hc j (by omega), hr⟩
theorem list_of {α : Type} {p : Nat → α → Prop} : ∀ {n : Nat}, (∀ i, i < n → ∃ y, p i y) → ∃ ys : List α, ys.length = n ∧ ∀ i y, ys[i]? = some y → p i y
  | 0, _ => ⟨[], rfl, fun i y h => by simp at h⟩
  | k + 1, hall => by
    obtain ⟨ys, h1, h2⟩ := list_of (n := k) (fun i hi => hall i (by omega))
    obtain ⟨y, hy⟩ := hall k (by omega)
    refine ⟨ys ++ [y], by simp [h1], fun i z hz => ?_⟩
    rcases Nat.lt_trichotomy i k with hi | hi | hi
    · rw [List.getElem?_append_left (by omega)] at hz
      exact h2 i z hz
    · subst hi
      rw [List.getElem?_append_right (by omega), h1, Nat.sub_self] at hz
      simp at hz
      subst hz
      exact hy
    · rw [List.getElem?_eq_none (by simp; omega)] at hz
      cases hz
theorem opens_slice {t e : TypeId} {α : Type} {r : R α} (ht : P.underlying t = some (.slice e)) (hc : P.cellsOf t = 1) (he : Opens P e r) : Opens P t (slice r) :=
  ⟨hc, fun H enc w spare held fuel cs x h => by
    rcases open_slice ht h with ⟨rfl, _⟩ | ⟨a, len, cap, m, n, D, Pl, rfl, _, hl, hm, hmm, _, hx⟩
    · exact ⟨(⟨none, 0, 0⟩, []), rfl, rfl, Nat.le_refl _, Nat.zero_le _, fun _ => rfl, fun a ha => by cases ha⟩
    · have hlm : len ≤ m := by rw [hmm]; split <;> omega
      have hall : ∀ i, i < len → ∃ y, At r w (a.add (i * r.size)) y := fun i hi => by
        obtain ⟨cs', h1, h2⟩ := hx i (by omega)
        obtain ⟨y, hy⟩ := he.2 H enc w spare held n cs' _ h2
        rw [he.1] at h1
        exact ⟨y, at_of_cells h1 rfl hy⟩
      obtain ⟨ys, hys, hya⟩ := list_of hall
      exact ⟨(⟨some a, len, cap⟩, ys), rfl, hys, hl, hm, fun h => (by cases h), fun a' ha' => by
        injection ha' with ha'
        subst ha'
        exact hya⟩⟩
/-- The fields of a struct, one behind the other. -/
inductive Fields (P : Program) : List Field → Nat → {α : Type} → R α → Prop
  | nil (off : Nat) : Fields P [] off unit
  | cons {f : Field} {fs : List Field} {off : Nat} {α β : Type} {r : R α} {s : R β} (ho : f.offset = off) (hr : Opens P f.type r) (hs : Fields P fs (off + r.size) s) : Fields P (f :: fs) off (seq r s)
theorem fields_read {w : World} {n : Nat} {cs : List Value} : ∀ {fs : List Field} {off : Nat} {α : Type} {r : R α}, Fields P fs off r → cs.length = off + r.size →
    (∀ f, f ∈ fs → ∃ x, DataW.trod enc P w 0 spare held n f.type ((cs.drop f.offset).take (P.cellsOf f.type)) = some x) → ∃ a, r.rel w (cs.drop off) a
  | [], off, _, _, .nil _, hl, _ => ⟨(), by
      show cs.drop off = []
      rw [List.drop_eq_nil_iff]; simp [unit] at hl; omega⟩
  | f :: fs, off, _, _, .cons (r := r) (s := s) ho hr hs, hl, h => by
    obtain ⟨x, hx⟩ := h f (List.mem_cons_self ..)
    obtain ⟨a, ha⟩ := hr.2 _ _ _ _ _ _ _ _ hx
    have hl' : cs.length = off + (r.size + s.size) := hl
    obtain ⟨b, hb⟩ := fields_read hs (by omega) (fun g hg => h g (List.mem_cons_of_mem _ hg))
    rw [hr.1, ho] at ha
    refine ⟨(a, b), (cs.drop off).take r.size, cs.drop (off + r.size), ?_, ?_, ?_, ha, hb⟩
    · rw [← List.drop_drop, List.take_append_drop]
    · rw [List.length_take, List.length_drop]; omega
    · rw [List.length_drop]; omega
theorem opens_struct {t : TypeId} {fs : Array Field} {α : Type} {r : R α} (ht : P.underlying t = some (.struct fs)) (hc : P.cellsOf t = r.size) (hf : Fields P fs.toList 0 r) : Opens P t r :=
  ⟨hc, fun H enc w spare held fuel cs x h => by
    obtain ⟨xs, n, _, _, hl, hlen, hx⟩ := DataW.trod_struct ht h
    have := fields_read (enc := enc) (spare := spare) (held := held) (w := w) (n := n) (cs := cs) hf (by rw [hl, hc]; omega) (fun f hf' => by
      obtain ⟨i, hi, rfl⟩ := List.getElem_of_mem hf'
      have hi' : i < fs.size := by simpa using hi
      refine ⟨xs[i]'(by omega), ?_⟩
      have := hx i fs[i] (by simp [hi'])
      simpa [show i < xs.length by omega] using this)
    simpa using this⟩
end
/-- What is read at an argument. -/
theorem Opens.arg {P : Program} {t : TypeId} {α : Type} {r : R α} (h : Opens P t r) {H : Type} {enc : TypeId × Value → H} {w : World} {spare : Nat → Bool} {held : Bool} {v : Value} {d : DataW H} {ps : List MemPlace}
    (ht : DataW.Trod enc P w 0 spare held t v d ps) : ∃ a, r.rel w v.cells.toList a := by
  obtain ⟨fuel, hf⟩ := ht
  exact h.2 _ _ _ _ _ _ _ _ hf
end Go.Proofs.Ytcblhfjgdkbinaa.Rdr
