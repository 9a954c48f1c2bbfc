/- Readers that know that what they read is of bulk at most 1048576: each slice's length. Plain theorems, no condition. -/
import Derived.Test.YtenadnmglhghiaaRdr
import Derived.Test.YtenadnmglhghiaaRows
namespace Go.Proofs.Ytenadnmglhghiaa.RdU
open Go.RowKit Go.Deep Go.Proofs.Ytenadnmglhghiaa.Rdr

theorem one_le {H : Type} (d : DataW H) : 1 ≤ Rows.uptoBulk d := by
  rcases d with l | _ | d | ⟨a, b⟩ | p | ⟨t, d⟩ | e | h <;> (try rcases l with _ | _ | _ | _ | _ | _) <;> simp [Rows.uptoBulk]
theorem part_le {H : Type} {d : DataW H} : ∀ {l : List (DataW H)}, d ∈ l → Rows.uptoBulk d ≤ Rows.uptoBulkAll l
  | e :: l, h => by
    rw [show Rows.uptoBulkAll (e :: l) = Rows.uptoBulk e + Rows.uptoBulkAll l by simp only [Rows.uptoBulkAll]]
    rcases List.mem_cons.1 h with rfl | h
    · omega
    · have := part_le h; omega
theorem length_le {H : Type} : ∀ l : List (DataW H), l.length ≤ Rows.uptoBulkAll l
  | [] => Nat.zero_le _
  | e :: l => by
    rw [show Rows.uptoBulkAll (e :: l) = Rows.uptoBulk e + Rows.uptoBulkAll l by simp only [Rows.uptoBulkAll], List.length_cons]
    have := one_le e
    have := length_le l
    omega
theorem bound {H : Type} {l : List (DataW H)} (hk : Rows.uptoSmall H l = true) : Rows.uptoBulkAll l ≤ 1048576 := of_decide_eq_true hk
def sliceU {α : Type} (r : R α) : R (SlV × List α) := ⟨1, fun w cs x => (slice r).rel w cs x ∧ x.1.n ≤ 1048576⟩
def Sub {α : Type} (r s : R α) : Prop := r.size = s.size ∧ ∀ w cs x, r.rel w cs x → s.rel w cs x
theorem Sub.refl {α : Type} (r : R α) : Sub r r := ⟨rfl, fun _ _ _ h => h⟩
theorem Sub.seq {α β : Type} {r r' : R α} {s s' : R β} (h : Sub r r') (k : Sub s s') : Sub (seq r s) (seq r' s') :=
  ⟨by show r.size + s.size = r'.size + s'.size; rw [h.1, k.1], fun w cs x ⟨c1, c2, e, l1, l2, r1, r2⟩ => ⟨c1, c2, e, l1.trans h.1, l2.trans k.1, h.2 _ _ _ r1, k.2 _ _ _ r2⟩⟩
theorem at_sub {α : Type} {r s : R α} (h : Sub r s) {w : World} {a : Addr} {x : α} (k : At r w a x) : At s w a x := by
  obtain ⟨cs, h1, h2, h3⟩ := k
  exact ⟨cs, h1.trans h.1, fun j hj => h2 j (by rw [h.1]; exact hj), h.2 _ _ _ h3⟩
theorem Sub.slice {α : Type} {r s : R α} (h : Sub r s) : Sub (sliceU r) (slice s) :=
  ⟨rfl, fun w cs x ⟨⟨h1, h2, h3, h4, h5, h6⟩, _⟩ => ⟨h1, h2, h3, h4, h5, fun a ha i y hy => by rw [← h.1]; exact at_sub h (h6 a ha i y hy)⟩⟩
section
variable {H : Type} {enc : TypeId × Value → H} {P : Program} {spare : Nat → Bool} {held : Bool}
def Opens (P : Program) (t : TypeId) {α : Type} (r : R α) : Prop :=
  P.cellsOf t = r.size ∧ ∀ (H : Type) (enc : TypeId × Value → H) (w : World) (spare : Nat → Bool) (held : Bool) (fuel : Nat) (cs : List Value) (x : DataW H × List MemPlace),
    DataW.trod enc P w 0 spare held fuel t cs = some x → Rows.uptoBulk x.1 ≤ 1048576 → ∃ a, r.rel w cs a
theorem opens_int {t : TypeId} {k : IntKind} (ht : P.underlying t = some (.int k)) (hc : P.cellsOf t = 1) : Opens P t (int k) :=
  ⟨hc, fun H enc w spare held fuel cs x h _ => (Rdr.opens_int ht hc).2 H enc w spare held fuel cs x h⟩
theorem opens_bool {t : TypeId} (ht : P.underlying t = some .bool) (hc : P.cellsOf t = 1) : Opens P t bool :=
  ⟨hc, fun H enc w spare held fuel cs x h _ => (Rdr.opens_bool ht hc).2 H enc w spare held fuel cs x h⟩
theorem opens_slice {t e : TypeId} {α : Type} {r : R α} (ht : P.underlying t = some (.slice e)) (hc : P.cellsOf t = 1) (he : Opens P e r) : Opens P t (sliceU r) :=
  ⟨hc, fun H enc w spare held fuel cs x h hb => by
    rcases open_slice ht h with ⟨rfl, _⟩ | ⟨a, len, cap, m, n, D, Pl, rfl, _, hl, hm, hmm, rfl, hx⟩
    · exact ⟨(⟨none, 0, 0⟩, []), ⟨rfl, rfl, Nat.le_refl _, Nat.zero_le _, fun _ => rfl, fun a ha => by cases ha⟩, Nat.zero_le _⟩
    · have hlm : len ≤ m := by rw [hmm]; split <;> omega
      simp only [Rows.uptoBulk] at hb
      have hlen := length_le ((List.range len).map D)
      rw [List.length_map, List.length_range] at hlen
      have hall : ∀ i, i < len → ∃ y, At r w (a.add (i * r.size)) y := fun i hi => by
        obtain ⟨cs', h1, h2⟩ := hx i (by omega)
        have h3 : Rows.uptoBulk (D i) ≤ Rows.uptoBulkAll ((List.range len).map D) := part_le (List.mem_map.2 ⟨i, List.mem_range.2 hi, rfl⟩)
        obtain ⟨y, hy⟩ := he.2 H enc w spare held n cs' _ h2 (by show Rows.uptoBulk (D i) ≤ _; omega)
        rw [he.1] at h1
        exact ⟨y, at_of_cells h1 rfl hy⟩
      obtain ⟨ys, hys, hya⟩ := list_of hall
      exact ⟨(⟨some a, len, cap⟩, ys), ⟨rfl, hys, hl, hm, fun h => (by cases h), fun a' ha' => by
        injection ha' with ha'
        subst ha'
        exact hya⟩, by show len ≤ _; omega⟩⟩
inductive Fields (P : Program) : List Field → Nat → {α : Type} → R α → Prop
  | nil (off : Nat) : Fields P [] off unit
  | cons {f : Field} {fs : List Field} {off : Nat} {α β : Type} {r : R α} {s : R β} (ho : f.offset = off) (hr : Opens P f.type r) (hs : Fields P fs (off + r.size) s) : Fields P (f :: fs) off (seq r s)
theorem fields_read {w : World} {n : Nat} {cs : List Value} : ∀ {fs : List Field} {off : Nat} {α : Type} {r : R α}, Fields P fs off r → cs.length = off + r.size →
    (∀ f, f ∈ fs → ∃ x, DataW.trod enc P w 0 spare held n f.type ((cs.drop f.offset).take (P.cellsOf f.type)) = some x ∧ Rows.uptoBulk x.1 ≤ 1048576) → ∃ a, r.rel w (cs.drop off) a
  | [], off, _, _, .nil _, hl, _ => ⟨(), by
      show cs.drop off = []
      rw [List.drop_eq_nil_iff]; simp [unit] at hl; omega⟩
  | f :: fs, off, _, _, .cons (r := r) (s := s) ho hr hs, hl, h => by
    obtain ⟨x, hx, hxb⟩ := h f (List.mem_cons_self ..)
    obtain ⟨a, ha⟩ := hr.2 _ _ _ _ _ _ _ _ hx hxb
    have hl' : cs.length = off + (r.size + s.size) := hl
    obtain ⟨b, hb⟩ := fields_read hs (by omega) (fun g hg => h g (List.mem_cons_of_mem _ hg))
    rw [hr.1, ho] at ha
    refine ⟨(a, b), (cs.drop off).take r.size, cs.drop (off + r.size), ?_, ?_, ?_, ha, hb⟩
    · rw [← List.drop_drop, List.take_append_drop]
    · rw [List.length_take, List.length_drop]; omega
    · rw [List.length_drop]; omega
theorem opens_struct {t : TypeId} {fs : Array Field} {α : Type} {r : R α} (ht : P.underlying t = some (.struct fs)) (hc : P.cellsOf t = r.size) (hf : Fields P fs.toList 0 r) : Opens P t r :=
  ⟨hc, fun H enc w spare held fuel cs x h hb => by
    obtain ⟨xs, n, _, hxe, hl, hlen, hx⟩ := DataW.trod_struct ht h
    subst hxe
    simp only [Rows.uptoBulk] at hb
    have := fields_read (enc := enc) (spare := spare) (held := held) (w := w) (n := n) (cs := cs) hf (by rw [hl, hc]; omega) (fun f hf' => by
      obtain ⟨i, hi, rfl⟩ := List.getElem_of_mem hf'
      have hi' : i < fs.size := by simpa using hi
      have hxi : i < xs.length := by omega
      refine ⟨xs[i]'hxi, ?_, ?_⟩
      · have := hx i fs[i] (by simp [hi'])
        simpa [hxi] using this
      · have := part_le (show (xs[i]'hxi).1 ∈ xs.map (·.1) from List.mem_map.2 ⟨_, List.getElem_mem hxi, rfl⟩)
        omega)
    simpa using this⟩
end
theorem Opens.arg {P : Program} {t : TypeId} {α : Type} {r : R α} (h : Opens P t r) {H : Type} {enc : TypeId × Value → H} {w : World} {spare : Nat → Bool} {held : Bool} {v : Value} {d : DataW H} {ps : List MemPlace}
    (ht : DataW.Trod enc P w 0 spare held t v d ps) (hb : Rows.uptoBulk d ≤ 1048576) : ∃ a, r.rel w v.cells.toList a := by
  obtain ⟨fuel, hf⟩ := ht
  exact h.2 _ _ _ _ _ _ _ _ hf hb
end Go.Proofs.Ytenadnmglhghiaa.RdU
