/- Queue: what is sorted by places and compacted is what is moved, in the row's order. Plain laws, no program in sight. -/
import Derived.Test.YtgldhnjbodmbbaaQg
import Derived.Lib.SlicesCompact
namespace Go.Proofs.Ytgldhnjbodmbbaa.Qu
open Go.Lib (compactUpTo compactUpTo_succ keeps)
set_option linter.unusedVariables false

section
variable {f : Int → Int}
theorem mem_compact (d : List Int) (m : Nat) (hm : m ≤ d.length) (y : Int) : y ∈ compactUpTo d.toArray m ↔ y ∈ d.take m := by
  induction m with
  | zero => simp [compactUpTo]
  | succ m ih =>
    have hlt : m < d.length := by omega
    rw [compactUpTo_succ, List.mem_append, ih (by omega), List.take_succ_eq_append_getElem hlt, List.mem_append]
    have e : d.toArray[m]! = d[m] := by simp [getElem!_pos, hlt]
    by_cases hk : keeps d.toArray m = true
    · rw [if_pos hk, e]
    · rw [if_neg hk]
      unfold keeps at hk
      simp only [decide_eq_true_eq, not_or, Decidable.not_not] at hk
      obtain ⟨h0, h1⟩ := hk
      have hlt' : m - 1 < d.length := by omega
      have e' : d.toArray[m - 1]! = d[m - 1] := by simp [getElem!_pos, hlt']
      rw [e, e'] at h1
      constructor
      · rintro (h | h)
        · exact .inl h
        · cases h
      · rintro (h | h)
        · exact .inl h
        · left
          simp only [List.mem_cons, List.not_mem_nil, or_false] at h
          rw [h, h1]
          exact List.mem_take_iff_getElem.2 ⟨m - 1, by omega, rfl⟩
theorem ss_compact (d : List Int) (hd : d.Pairwise fun x y => f x ≤ f y) (hi : ∀ x y, x ∈ d → y ∈ d → f x = f y → x = y) (m : Nat) (hm : m ≤ d.length) : (compactUpTo d.toArray m).Pairwise fun x y => f x < f y := by
  induction m with
  | zero => simp [compactUpTo]
  | succ m ih =>
    have hlt : m < d.length := by omega
    have e : d.toArray[m]! = d[m] := by simp [getElem!_pos, hlt]
    rw [compactUpTo_succ]
    by_cases hk : keeps d.toArray m = true
    · rw [if_pos hk, e]
      refine List.pairwise_append.2 ⟨ih (by omega), List.pairwise_singleton _ _, fun a ha b hb => ?_⟩
      obtain rfl : b = d[m] := by simpa using hb
      obtain ⟨i, hi2, rfl⟩ := List.mem_take_iff_getElem.1 ((mem_compact d m (by omega) a).1 ha)
      have him : i < m := by omega
      have hP := List.pairwise_iff_getElem.1 hd
      have h1 := hP i m (by omega) hlt him
      rcases Int.lt_or_eq_of_le h1 with hh | hh
      · exact hh
      · exfalso
        unfold keeps at hk
        simp only [decide_eq_true_eq] at hk
        rcases hk with hk | hk
        · omega
        · have hlt' : m - 1 < d.length := by omega
          have e' : d.toArray[m - 1]! = d[m - 1] := by simp [getElem!_pos, hlt']
          rw [e, e'] at hk
          apply hk
          refine hi _ _ (List.getElem_mem _) (List.getElem_mem _) ?_
          rcases Nat.lt_or_ge i (m - 1) with h2 | h2
          · have h3 := hP (m - 1) m hlt' hlt (by omega)
            have h4 := hP i (m - 1) (by omega) hlt' h2
            omega
          · obtain rfl : i = m - 1 := by omega
            exact hh.symm
    · rw [if_neg hk, List.append_nil]
      exact ih (by omega)
theorem nodup_lt {a : List Int} (ha : a.Pairwise fun x y => f x < f y) : a.Nodup := ha.imp fun h e => by rw [e] at h; omega
theorem ss_eq {a b : List Int} (ha : a.Pairwise fun x y => f x < f y) (hb : b.Pairwise fun x y => f x < f y) (hm : ∀ x, x ∈ a ↔ x ∈ b) : a = b :=
  List.Perm.eq_of_pairwise (le := fun x y => f x < f y) (fun x y _ _ h1 h2 => by omega) ha hb ((List.perm_ext_iff_of_nodup (nodup_lt ha) (nodup_lt hb)).2 hm)
end
/-- What is moved, in the row's order. -/
def mvL (row : List Nat) (l : List Int) : List Nat := row.filter fun v => l.contains (v : Int)
theorem moved_eq {row : List Nat} {f : Int → Int} (hf : ∀ i (h : i < row.length), f (row[i] : Nat) = i) {l d : List Int} (hl : ∀ x, x ∈ l → ∃ v, v ∈ row ∧ x = (v : Nat)) (hd : d.Pairwise fun x y => f x ≤ f y) (hm : ∀ x, x ∈ d ↔ x ∈ l) :
    compactUpTo d.toArray d.length = rowI (mvL row l) := by
  have hinj : ∀ x y, x ∈ d → y ∈ d → f x = f y → x = y := fun x y hx hy e => by
    obtain ⟨u, hu, rfl⟩ := hl x ((hm x).1 hx)
    obtain ⟨v, hv, rfl⟩ := hl y ((hm y).1 hy)
    obtain ⟨i, hi, rfl⟩ := List.getElem_of_mem hu
    obtain ⟨j, hj, rfl⟩ := List.getElem_of_mem hv
    rw [hf i hi, hf j hj] at e
    obtain rfl : i = j := by omega
    rfl
  have hrow : row.Pairwise fun a b => f (a : Nat) < f (b : Nat) := List.pairwise_iff_getElem.2 fun i j hi hj h => by
    rw [hf i hi, hf j hj]; omega
  refine ss_eq (ss_compact d hd hinj d.length (Nat.le_refl _)) ?_ fun x => ?_
  · unfold rowI mvL
    rw [List.pairwise_map]
    exact hrow.sublist List.filter_sublist
  · rw [mem_compact d d.length (Nat.le_refl _), List.take_length, hm]
    unfold rowI mvL
    rw [List.mem_map]
    constructor
    · intro hx
      obtain ⟨v, hv, rfl⟩ := hl x hx
      exact ⟨v, List.mem_filter.2 ⟨hv, by simpa using hx⟩, rfl⟩
    · rintro ⟨v, hv, rfl⟩
      have := (List.mem_filter.1 hv).2
      simpa using this
end Go.Proofs.Ytgldhnjbodmbbaa.Qu
