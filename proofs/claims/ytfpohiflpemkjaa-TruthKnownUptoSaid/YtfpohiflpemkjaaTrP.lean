/- The plain law of masks: a clause as bits is true in the k-th model just as the clause is. -/
import Derived.Test.YtfpohiflpemkjaaTrC
import Derived.Test.YtfpohiflpemkjaaMo
namespace Go.Proofs.Ytfpohiflpemkjaa.Tr
open Go.RowKit Go.Proofs.Ytfpohiflpemkjaa.Mem Go.Proofs.Ytfpohiflpemkjaa.Sl Go.Proofs.Ytfpohiflpemkjaa.Cl Go.Proofs.Ytfpohiflpemkjaa.Mo Go.Shelf
set_option linter.unusedVariables false

def holdsM (m : Nat × Nat) (k : Nat) : Bool := ((m.1 &&& k) ||| (m.2 &&& (4294967295 - k))) != 0
theorem ne_zero_iff (x : Nat) : x ≠ 0 ↔ ∃ i, x.testBit i = true := by
  constructor
  · intro h
    exact Nat.exists_testBit_of_ne_zero h
  · rintro ⟨i, hi⟩ rfl
    simp at hi
theorem holdsM_iff (m : Nat × Nat) (k : Nat) (hk : k < 4294967296) : holdsM m k = true ↔ ∃ i, (m.1.testBit i = true ∧ k.testBit i = true) ∨ (m.2.testBit i = true ∧ i < 32 ∧ k.testBit i = false) := by
  unfold holdsM
  rw [bne_iff_ne, ne_zero_iff]
  refine exists_congr fun i => ?_
  rw [show 4294967295 - k = 2 ^ 32 - (k + 1) by omega, Nat.testBit_or, Nat.testBit_and, Nat.testBit_and, Nat.testBit_two_pow_sub_succ (show k < 2 ^ 32 by omega)]
  cases m.1.testBit i <;> cases m.2.testBit i <;> cases k.testBit i <;> simp
theorem mask_bits (i : Nat) : ∀ (l : List Int) (m : Nat × Nat),
    ((l.foldl orLit m).1.testBit i = true ↔ m.1.testBit i = true ∨ ∃ x, x ∈ l ∧ 0 < x ∧ (varI x).toNat - 1 = i) ∧
    ((l.foldl orLit m).2.testBit i = true ↔ m.2.testBit i = true ∨ ∃ x, x ∈ l ∧ ¬ 0 < x ∧ (varI x).toNat - 1 = i)
  | [], m => by simp
  | x :: l, m => by
    rw [List.foldl_cons]
    obtain ⟨h1, h2⟩ := mask_bits i l (orLit m x)
    rw [h1, h2]
    unfold orLit
    by_cases hx : 0 < x
    · rw [if_pos hx]
      dsimp only
      rw [Nat.testBit_or]
      unfold bitOf
      rw [Nat.testBit_two_pow]
      simp only [Bool.or_eq_true, decide_eq_true_eq, List.mem_cons]
      constructor
      · constructor
        · rintro ((h | h) | ⟨y, hy, h3⟩)
          · exact .inl h
          · exact .inr ⟨x, .inl rfl, hx, h⟩
          · exact .inr ⟨y, .inr hy, h3⟩
        · rintro (h | ⟨y, rfl | hy, h3, h4⟩)
          · exact .inl (.inl h)
          · exact .inl (.inr h4)
          · exact .inr ⟨y, hy, h3, h4⟩
      · constructor
        · rintro (h | ⟨y, hy, h3⟩)
          · exact .inl h
          · exact .inr ⟨y, .inr hy, h3⟩
        · rintro (h | ⟨y, rfl | hy, h3, h4⟩)
          · exact .inl h
          · exact absurd hx h3
          · exact .inr ⟨y, hy, h3, h4⟩
    · rw [if_neg hx]
      dsimp only
      rw [Nat.testBit_or]
      unfold bitOf
      rw [Nat.testBit_two_pow]
      simp only [Bool.or_eq_true, decide_eq_true_eq, List.mem_cons]
      constructor
      · constructor
        · rintro (h | ⟨y, hy, h3⟩)
          · exact .inl h
          · exact .inr ⟨y, .inr hy, h3⟩
        · rintro (h | ⟨y, rfl | hy, h3, h4⟩)
          · exact .inl h
          · exact absurd h3 hx
          · exact .inr ⟨y, hy, h3, h4⟩
      · constructor
        · rintro ((h | h) | ⟨y, hy, h3⟩)
          · exact .inl h
          · exact .inr ⟨x, .inl rfl, hx, h⟩
          · exact .inr ⟨y, .inr hy, h3⟩
        · rintro (h | ⟨y, rfl | hy, h3, h4⟩)
          · exact .inl (.inl h)
          · exact .inl (.inr h4)
          · exact .inr ⟨y, hy, h3, h4⟩
theorem modelB_bit (N k i : Nat) (hi : i < N) : (modelB N k).getD i false = k.testBit i := by
  unfold modelB
  rw [List.getD_eq_getElem?_getD, List.getElem?_map, List.getElem?_range hi, Nat.testBit_eq_decide_div_mod_eq]
  rfl
theorem isB_iff (N k : Nat) (x : Int) (h1 : 1 ≤ varI x) (h2 : varI x ≤ N) : isB (modelB N k) x = true ↔ (0 < x ∧ k.testBit ((varI x).toNat - 1) = true) ∨ (¬ 0 < x ∧ k.testBit ((varI x).toNat - 1) = false) := by
  unfold isB
  rw [modelB_length, modelB_bit N k _ (by omega), decide_eq_true h1, decide_eq_true h2]
  by_cases hx : 0 < x
  · rw [decide_eq_true hx]; simp [hx]
  · rw [decide_eq_false hx]; simp [hx]
theorem holdsM_val (N k : Nat) (hN : N ≤ 16) (hk : k < 2 ^ N) (l : List Int) (hl : ∀ x, x ∈ l → 1 ≤ varI x ∧ varI x ≤ N) : holdsM (maskOf l) k = valB (modelB N k) l := by
  have hk2 : k < 4294967296 := Nat.lt_of_lt_of_le hk (Nat.le_trans (Nat.pow_le_pow_right (by decide) hN) (by decide))
  have key : holdsM (maskOf l) k = true ↔ valB (modelB N k) l = true := by
    rw [holdsM_iff _ _ hk2]
    unfold valB
    rw [List.any_eq_true]
    constructor
    · rintro ⟨i, ⟨h1, h2⟩ | ⟨h1, _, h2⟩⟩
      · rcases (mask_bits i l (0, 0)).1.1 h1 with h | ⟨x, hx, h3, h4⟩
        · simp at h
        · exact ⟨x, hx, (isB_iff N k x (hl x hx).1 (hl x hx).2).2 (.inl ⟨h3, by rw [h4]; exact h2⟩)⟩
      · rcases (mask_bits i l (0, 0)).2.1 h1 with h | ⟨x, hx, h3, h4⟩
        · simp at h
        · exact ⟨x, hx, (isB_iff N k x (hl x hx).1 (hl x hx).2).2 (.inr ⟨h3, by rw [h4]; exact h2⟩)⟩
    · rintro ⟨x, hx, h⟩
      rcases (isB_iff N k x (hl x hx).1 (hl x hx).2).1 h with ⟨h1, h2⟩ | ⟨h1, h2⟩
      · exact ⟨_, .inl ⟨(mask_bits _ l (0, 0)).1.2 (.inr ⟨x, hx, h1, rfl⟩), h2⟩⟩
      · exact ⟨_, .inr ⟨(mask_bits _ l (0, 0)).2.2 (.inr ⟨x, hx, h1, rfl⟩), by have := hl x hx; omega, h2⟩⟩
  cases h1 : holdsM (maskOf l) k <;> cases h2 : valB (modelB N k) l <;> simp_all
end Go.Proofs.Ytfpohiflpemkjaa.Tr
