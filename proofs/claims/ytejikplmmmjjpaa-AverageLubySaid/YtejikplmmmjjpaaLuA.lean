/- The row of Luby from its beginning: plain words, no program, no condition. -/
import Derived.Test.YtejikplmmmjjpaaAvgM
import Derived.Test.YtejikplmmmjjpaaMem
namespace Go.Proofs.Ytejikplmmmjjpaa.Avg
open Go.RowKit Go.Proofs.Ytejikplmmmjjpaa.Mem Go.Proofs.Ytejikplmmmjjpaa.AvgM
set_option linter.unusedVariables false

def lubS : Nat → Nat
  | 0 => 0
  | k + 1 => lubS k + lub (k + 1)
theorem log2_is {i j : Nat} (h1 : 2 ^ j ≤ i) (h2 : i < 2 ^ (j + 1)) : Nat.log2 i = j := by
  have hi : i ≠ 0 := by have := Nat.two_pow_pos j; omega
  have a : Nat.log2 i < j + 1 := (Nat.log2_lt hi).2 h2
  have b : ¬ Nat.log2 i < j := fun h => by have := (Nat.log2_lt hi).1 h; omega
  omega
theorem lub_shift {j m : Nat} (hj : j ≤ 60) (hm : m + 1 < 2 ^ j) : lub (2 ^ j + m) = lub (m + 1) := by
  have h1 : 2 ^ (j + 1) = 2 * 2 ^ j := by rw [Nat.pow_succ]; omega
  have hl : Nat.log2 (2 ^ j + m) = j := log2_is (by omega) (by omega)
  have hb : 2 ^ j ≤ 2 ^ 60 := Nat.pow_le_pow_right (by omega) hj
  rw [lub_next (by have := Nat.two_pow_pos j; omega) (by omega) (by rw [hl]; omega), hl]
  congr 1; omega
theorem lubS_split {j : Nat} (hj : j ≤ 60) : ∀ m, m < 2 ^ j → lubS (2 ^ j - 1 + m) = lubS (2 ^ j - 1) + lubS m
  | 0, _ => by simp [lubS]
  | m + 1, h => by
    have ih := lubS_split hj m (by omega)
    have hp := Nat.two_pow_pos j
    rw [show 2 ^ j - 1 + (m + 1) = (2 ^ j - 1 + m) + 1 by omega, lubS, lubS, ih, show 2 ^ j - 1 + m + 1 = 2 ^ j + m by omega, lub_shift hj (by omega)]
    omega
theorem lub_top {j : Nat} (hj : j ≤ 60) : lub (2 ^ (j + 1) - 1) = 2 ^ j := by
  have h1 : 2 ^ (j + 1) = 2 * 2 ^ j := by rw [Nat.pow_succ]; omega
  have hp := Nat.two_pow_pos j
  have hl : Nat.log2 (2 ^ (j + 1) - 1) = j := log2_is (by omega) (by omega)
  have hb : 2 ^ j ≤ 2 ^ 60 := Nat.pow_le_pow_right (by omega) hj
  rw [lub_end (by omega) (by omega) (by rw [hl]; omega), hl]
/-- Two to the j, less 1, numbers come to j times 2^(j-1); twice that said without the lesser exponent. -/
theorem lubS_pow : ∀ j, j ≤ 60 → 2 * lubS (2 ^ j - 1) = j * 2 ^ j
  | 0, _ => by simp [lubS]
  | j + 1, h => by
    have ih := lubS_pow j (by omega)
    have h1 : 2 ^ (j + 1) = 2 * 2 ^ j := by rw [Nat.pow_succ]; omega
    have hp := Nat.two_pow_pos j
    have e : 2 ^ (j + 1) - 1 = (2 ^ j - 1 + (2 ^ j - 1)) + 1 := by omega
    have ht := lub_top (j := j) (by omega)
    rw [e] at ht
    rw [e, lubS, lubS_split (by omega) _ (by omega), ht, Nat.add_mul, h1, Nat.one_mul]
    have e2 : j * (2 * 2 ^ j) = 2 * (j * 2 ^ j) := by rw [Nat.mul_left_comm]
    omega
theorem lubS_le : ∀ k, k ≤ 1000000 → lubS k ≤ k * k
  | 0, _ => Nat.le_refl _
  | k + 1, h => by
    have ih := lubS_le k (by omega)
    have hl := (lub_le (i := k + 1) (by omega) (by omega)).2
    rw [lubS, Nat.add_mul, Nat.mul_add]
    omega
end Go.Proofs.Ytejikplmmmjjpaa.Avg
