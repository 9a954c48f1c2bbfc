/- TruthKnown: what is asked of sixteen variables. -/
import Derived.Test.YtfpohiflpemkjaaTrZ
namespace Go.Proofs.Ytfpohiflpemkjaa.Tr
open Go.RowKit Go.Proofs.Ytfpohiflpemkjaa.Mem Go.Proofs.Ytfpohiflpemkjaa.Sl Go.Proofs.Ytfpohiflpemkjaa.Cl Go.Proofs.Ytfpohiflpemkjaa.Mo Go.Shelf
set_option linter.unusedVariables false

theorem countF_add (p : Nat → Bool) : ∀ (a b k : Nat), countF p (a + b) k = countF p a k + countF p b (k + a)
  | 0, b, k => by simp [countF]
  | a + 1, b, k => by
    rw [show a + 1 + b = (a + b) + 1 by omega, countF_succ, countF_succ, countF_add p a b (k + 1), show k + 1 + a = k + (a + 1) by omega]
    omega
theorem countF_zero (p : Nat → Bool) (d k : Nat) (h : ∀ i, k ≤ i → i < k + d → p i = false) : countF p d k = 0 := by
  rcases firstF_cases p d k with ⟨h1, _⟩ | ⟨j, _, h2, h3, h4, _⟩
  · exact countF_none p d k h1
  · rw [h j h2 h3] at h4; cases h4
theorem countF_full (p : Nat → Bool) : ∀ (d k : Nat), (∀ i, k ≤ i → i < k + d → p i = true) → countF p d k = d
  | 0, _, _ => rfl
  | d + 1, k, h => by
    rw [countF_succ, h k (Nat.le_refl _) (by omega), countF_full p d (k + 1) (fun i a b => h i (by omega) (by omega))]
    simp; omega
theorem bit15 (k : Nat) (hk : k < 65536) : k.testBit 15 = decide (32768 ≤ k) := by
  rw [Nat.testBit_eq_decide_div_mod_eq]
  by_cases h : 32768 ≤ k
  · rw [decide_eq_true h, decide_eq_true]
    omega
  · rw [decide_eq_false h, decide_eq_false]
    omega
theorem is16 (k : Nat) (hk : k < 65536) : isB (modelB 16 k) 16 = decide (32768 ≤ k) := by
  rw [Bool.eq_iff_iff, isB_iff 16 k 16 (by decide) (by decide), ← bit15 k hk]
  simp [varI]
theorem count16 (A : Option Addr) (n c : Nat) : countS 16 [⟨A, n, c, [16]⟩] = (32768, 0) := by
  have ht : takenE 16 [⟨A, n, c, [16]⟩] = 0 := by kernel_rfl
  unfold countS
  rw [if_pos ht]
  have hp : ∀ k, k < 65536 → satB 16 [⟨A, n, c, [16]⟩] k = decide (32768 ≤ k) := fun k hk => by
    rw [← is16 k hk]
    unfold satB holdsB valB
    simp
  have : countF (satB 16 [⟨A, n, c, [16]⟩]) 65536 0 = 32768 := by
    rw [show 65536 = 32768 + 32768 from rfl, countF_add, countF_zero _ _ _ (fun i _ h => by rw [hp i (by omega)]; exact decide_eq_false (by omega)),
      countF_full _ _ _ (fun i h1 h2 => by rw [hp i (by omega)]; exact decide_eq_true (by omega))]
  show (countF (satB 16 [⟨A, n, c, [16]⟩]) 65536 0, (0 : Int)) = (32768, 0)
  rw [this]
theorem find16 (A A' : Option Addr) (n c n' c' : Nat) : findS 16 [⟨A, n, c, [16]⟩, ⟨A', n', c', [-1, 15]⟩] = (modelB 16 32768, true, 0) := by
  have ht : takenE 16 [⟨A, n, c, [16]⟩, ⟨A', n', c', [-1, 15]⟩] = 0 := by kernel_rfl
  obtain ⟨p, hp⟩ : ∃ p, p = satB 16 [⟨A, n, c, [16]⟩, ⟨A', n', c', [-1, 15]⟩] := ⟨_, rfl⟩
  have hlow : ∀ k, k < 65536 → p k = true → 32768 ≤ k := fun k hk h => by
    rw [hp] at h
    unfold satB holdsB at h
    rw [List.all_cons, Bool.and_eq_true] at h
    have h1 := h.1
    unfold valB at h1
    rw [List.any_cons, List.any_nil, Bool.or_false, is16 k hk] at h1
    exact of_decide_eq_true h1
  have hat : p 32768 = true := by rw [hp]; kernel_rfl
  have hf : firstF p 65536 0 = 32768 := by
    rcases firstF_cases p 65536 0 with ⟨_, h⟩ | ⟨j, h1, h2, h3, h4, h5⟩
    · rw [h 32768 (by omega) (by omega)] at hat; cases hat
    · have := hlow j (by omega) h4
      by_cases hj : j = 32768
      · rw [h1, hj]; rfl
      · rw [h5 32768 (by omega) (by omega)] at hat; cases hat
  unfold findS
  rw [if_pos ht]
  show (if 0 ≤ firstF (satB 16 _) 65536 0 then (modelB 16 (firstF (satB 16 _) 65536 0).toNat, true, (0 : Int)) else ([], false, 0)) = _
  rw [← hp, hf]
  rfl
end Go.Proofs.Ytfpohiflpemkjaa.Tr
