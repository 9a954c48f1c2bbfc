/- TruthGrows: the plain law. -/
import Derived.Test.YtfpohiflpemkjaaTrX
namespace Go.Proofs.Ytfpohiflpemkjaa.Tr
open Go.RowKit Go.Proofs.Ytfpohiflpemkjaa.Mem Go.Proofs.Ytfpohiflpemkjaa.Sl Go.Proofs.Ytfpohiflpemkjaa.Cl Go.Proofs.Ytfpohiflpemkjaa.Mo Go.Shelf
set_option linter.unusedVariables false

theorem scan_len (N : Int) : ∀ (l : List Int) (c : Nat), scan N l c = 0 → c ≤ 16777216 → l.length + c ≤ 16777216
  | [], c, _, h => by simpa using h
  | x :: l, c, hs, h => by
    unfold scan at hs
    split at hs
    · cases hs
    · split at hs
      · cases hs
      · have := scan_len N l (c + 1) hs (by omega)
        rw [List.length_cons]; omega
theorem scan_good (N : Int) : ∀ (l : List Int) (c : Nat), (∀ y, y ∈ l → badB N y = false) → l.length + c ≤ 16777216 → scan N l c = 0
  | [], _, _, _ => rfl
  | x :: l, c, hb, h => by
    rw [List.length_cons] at h
    unfold scan
    rw [if_neg (by omega), if_neg (by rw [hb x (List.mem_cons_self ..)]; decide)]
    exact scan_good N l (c + 1) (fun y hy => hb y (List.mem_cons_of_mem _ hy)) (by omega)
theorem taken_flat {N : Int} {cs : List CV} (h : takenE N cs = 0) : (flat cs).length ≤ 16777216 ∧ ∀ y, y ∈ flat cs → badB N y = false := by
  have h0 := (taken_ok h).1
  unfold rightE at h0
  split at h0
  · cases h0
  · split at h0
    · cases h0
    · exact ⟨by have := scan_len N _ 0 h0 (by decide); omega, scan_ok N _ 0 h0⟩
theorem taken_more {N : Int} {cs : List CV} {x : CV} (h : takenE N cs = 0) (h60 : cs.length ≤ 60) (h300 : (flat cs).length ≤ 300) (h100 : x.l.length ≤ 100) (hx : ∀ y, y ∈ x.l → badB N y = false) : takenE N (cs ++ [x]) = 0 := by
  obtain ⟨h1, h2, h3, h4, _⟩ := taken_ok h
  have hf : flat (cs ++ [x]) = flat cs ++ x.l := by unfold flat; rw [List.flatMap_append]; simp
  have hr : rightE N (cs ++ [x]) = 0 := by
    unfold rightE
    rw [if_neg (by omega), if_neg (by simp; omega), hf]
    exact scan_good N _ 0 (fun y hy => by
      rcases List.mem_append.1 hy with hy | hy
      · exact (taken_flat h).2 y hy
      · exact hx y hy) (by rw [List.length_append]; omega)
  unfold takenE
  rw [hr, if_neg (by omega)]
theorem firstF_neg (p : Nat → Bool) (d k : Nat) : firstF p d k < 0 ↔ ∀ i, k ≤ i → i < k + d → p i = false := by
  rcases firstF_cases p d k with ⟨h1, h2⟩ | ⟨j, h1, h2, h3, h4, h5⟩
  · exact ⟨fun _ => h2, fun _ => by rw [h1]; decide⟩
  · exact ⟨fun h => by rw [h1] at h; omega, fun h => by have := h j h2 h3; rw [h4] at this; cases this⟩
theorem countF_mono (p q : Nat → Bool) : ∀ (d k : Nat), (∀ i, k ≤ i → i < k + d → q i = true → p i = true) → countF q d k ≤ countF p d k ∧ (countF q d k = countF p d k ↔ ∀ i, k ≤ i → i < k + d → q i = p i)
  | 0, k, _ => ⟨Nat.le_refl _, fun _ i h1 h2 => by omega, fun _ => rfl⟩
  | d + 1, k, h => by
    obtain ⟨h1, h2⟩ := countF_mono p q d (k + 1) (fun i a b => h i (by omega) (by omega))
    have h3 := h k (Nat.le_refl _) (by omega)
    rw [countF_succ, countF_succ]
    have hiff : (∀ i, k ≤ i → i < k + (d + 1) → q i = p i) ↔ q k = p k ∧ ∀ i, k + 1 ≤ i → i < k + 1 + d → q i = p i := by
      constructor
      · intro h
        exact ⟨h k (Nat.le_refl _) (by omega), fun i a b => h i (by omega) (by omega)⟩
      · rintro ⟨a, b⟩ i c e
        by_cases hi : i = k
        · subst hi; exact a
        · exact b i (by omega) (by omega)
    rw [hiff, ← h2]
    cases hq : q k <;> cases hp : p k
    · simp; exact h1
    · simp only [Bool.false_eq_true, if_false, if_true, false_and, iff_false]
      omega
    · rw [hq, hp] at h3; simp at h3
    · simp only [if_true, true_and]
      omega
theorem countF_pos (p : Nat → Bool) (d k : Nat) : 0 < countF p d k ↔ 0 ≤ firstF p d k := by
  rcases firstF_cases p d k with ⟨h1, h2⟩ | ⟨j, h1, h2, h3, h4, h5⟩
  · rw [countF_none p d k h1, h1]; simp
  · have := (countF_some p d k j h1).2.2
    rw [h1]; omega
/-- What is found, and whether something is. -/
theorem find_law {V : Nat} {cs : List CV} (h : takenE V cs = 0) :
    (∃ k, k < 2 ^ V ∧ findS V cs = (modelB V k, true, 0) ∧ holdsB (modelB V k) cs = true ∧ 0 < countF (satB V cs) (2 ^ V) 0) ∨
    (findS V cs = ([], false, 0) ∧ countF (satB V cs) (2 ^ V) 0 = 0 ∧ ∀ k, k < 2 ^ V → satB V cs k = false) := by
  have he : findS V cs = if 0 ≤ firstF (satB V cs) (2 ^ V) 0 then (modelB V (firstF (satB V cs) (2 ^ V) 0).toNat, true, 0) else ([], false, 0) := if_pos h
  rcases firstF_cases (satB V cs) (2 ^ V) 0 with ⟨h1, h2⟩ | ⟨j, h1, h2, h3, h4, h5⟩
  · exact .inr ⟨by rw [he, h1]; rfl, countF_none _ _ _ h1, fun k hk => h2 k (Nat.zero_le _) (by omega)⟩
  · exact .inl ⟨j, by omega, by rw [he, h1, if_pos (Int.natCast_nonneg _)]; rfl, h4, (countF_pos _ _ _).2 (by rw [h1]; omega)⟩
theorem own_law {V : Nat} {cs : List CV} (h : takenE V cs = 0) (x : CV) (hx : x ∈ cs) : impliesS V cs x.l = (true, 0) := by
  have hb : x.l.any (badB V) = false := by
    rw [List.any_eq_false]
    intro y hy
    rw [(taken_flat h).2 y (List.mem_flatMap.2 ⟨x, hx, hy⟩)]
    decide
  have he : impliesS V cs x.l = if x.l.any (badB V) then (false, 4) else (decide (firstF (unlessF V cs x.l) (2 ^ V) 0 < 0), 0) := if_pos h
  rw [he, hb, if_neg (by decide), decide_eq_true]
  refine (firstF_neg _ _ _).2 fun i _ _ => ?_
  unfold unlessF satB holdsB
  cases hc : cs.all (fun x => valB (modelB V i) x.l) with
  | false => rfl
  | true => rw [List.all_eq_true.1 hc x hx]; rfl
/-- A clause more. -/
theorem more_law {V : Nat} {cs : List CV} {x : CV} (h : takenE V cs = 0) (h60 : cs.length ≤ 60) (h300 : (flat cs).length ≤ 300) (h100 : x.l.length ≤ 100) (hi : (impliesS V cs x.l).2 = 0) :
    ∃ is : Bool, impliesS V cs x.l = (is, 0) ∧ countS V (cs ++ [x]) = (countF (satB V (cs ++ [x])) (2 ^ V) 0, 0) ∧ alikeS V cs V (cs ++ [x]) = (is, 0) ∧
      countF (satB V (cs ++ [x])) (2 ^ V) 0 ≤ countF (satB V cs) (2 ^ V) 0 ∧ (is = true ↔ countF (satB V (cs ++ [x])) (2 ^ V) 0 = countF (satB V cs) (2 ^ V) 0) ∧
      ((∀ k, k < 2 ^ V → satB V cs k = false) → is = true) := by
  have he : impliesS V cs x.l = if x.l.any (badB V) then (false, 4) else (decide (firstF (unlessF V cs x.l) (2 ^ V) 0 < 0), 0) := if_pos h
  have hb : x.l.any (badB V) = false := by
    cases hb : x.l.any (badB V) with
    | false => rfl
    | true => rw [he, hb, if_pos rfl] at hi; cases hi
  rw [hb, if_neg (by decide)] at he
  have ht : takenE V (cs ++ [x]) = 0 := taken_more h h60 h300 h100 (fun y hy => by
    have := List.any_eq_false.1 hb y hy
    simpa using this)
  have hq : ∀ k, satB V (cs ++ [x]) k = (satB V cs k && valB (modelB V k) x.l) := fun k => by
    unfold satB holdsB
    rw [List.all_append]; simp
  have hun : (fun k => satB V cs k != satB V (cs ++ [x]) k) = fun k => satB V cs k && !valB (modelB V k) x.l := by
    funext k
    rw [hq]
    cases satB V cs k <;> cases valB (modelB V k) x.l <;> rfl
  have hc := countF_mono (satB V cs) (satB V (cs ++ [x])) (2 ^ V) 0 (fun i _ _ hi => by rw [hq] at hi; simp at hi; exact hi.1)
  refine ⟨_, he, by unfold countS; rw [if_pos ht]; rfl, ?_, hc.1, ?_, ?_⟩
  · have : alikeS V cs V (cs ++ [x]) = (decide (firstF (unlikeF V cs (cs ++ [x])) (2 ^ V) 0 < 0), 0) := by
      unfold alikeS
      rw [if_pos h, if_pos ht, if_pos rfl]; rfl
    rw [this]
    unfold unlikeF unlessF
    rw [hun]
  · rw [decide_eq_true_iff, firstF_neg, hc.2]
    refine forall_congr' fun i => forall_congr' fun _ => forall_congr' fun _ => ?_
    rw [hq]
    unfold unlessF
    cases satB V cs i <;> cases valB (modelB V i) x.l <;> simp
  · intro hn
    rw [decide_eq_true_iff, firstF_neg]
    intro i _ h2
    unfold unlessF
    rw [hn i (by omega)]; rfl
end Go.Proofs.Ytfpohiflpemkjaa.Tr
