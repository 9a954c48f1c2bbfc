/- Plain mathematics of layer 15: division rounded down, logarithms, the row of Luby. No program in sight. -/
import Derived.Lib.ItoaNum
import Derived.IntWalk
namespace Go.Proofs.Ytejikplmmmjjpaa.AvgM

theorem tdiv_neg {a b : Int} (h : 0 < b) (hr : a.tmod b < 0) : a.tdiv b - 1 = a / b := by
  have h1 := Int.mul_tdiv_add_tmod a b
  have h2 : -b < a.tmod b := Int.lt_tmod_of_pos a h
  exact ((Int.ediv_emod_unique (a := a) (b := b) (q := a.tdiv b - 1) (r := a.tmod b + b) h).2 ⟨by rw [Int.mul_sub, Int.mul_one]; omega, by omega, by omega⟩).1.symm
theorem tdiv_nonneg {a b : Int} (h : 0 < b) (hr : 0 ≤ a.tmod b) : a.tdiv b = a / b := by
  have h1 := Int.mul_tdiv_add_tmod a b
  have h2 : a.tmod b < b := Int.tmod_lt_of_pos a h
  exact ((Int.ediv_emod_unique (a := a) (b := b) (q := a.tdiv b) (r := a.tmod b) h).2 ⟨by omega, by omega, by omega⟩).1.symm

/-- The logarithm of a number from 1 on, rounded down. -/
def lg (n : Int) : Nat := Nat.log2 n.toNat
theorem lg_half {n : Int} (h : 2 ≤ n) : lg n = lg (n / 2) + 1 := by
  unfold lg
  have e : (n / 2).toNat = n.toNat / 2 := by omega
  rw [e, Nat.log2_def, if_pos (by omega)]
theorem lg_one : lg 1 = 0 := by decide
theorem lg_le {n : Int} (h : 1 ≤ n) : (2 : Int) ^ lg n ≤ n := by
  have h1 := Nat.log2_self_le (n := n.toNat) (by omega)
  have h2 : ((2 ^ Nat.log2 n.toNat : Nat) : Int) ≤ n := by omega
  simpa [lg] using h2
theorem lg_lt {n : Int} (h : 1 ≤ n) : n < (2 : Int) ^ (lg n + 1) := by
  have h1 := Nat.lt_log2_self (n := n.toNat)
  have h2 : n < ((2 ^ (Nat.log2 n.toNat + 1) : Nat) : Int) := by omega
  simpa [lg] using h2
theorem lg_bound {n : Int} {k : Nat} (h : 1 ≤ n) (hk : n < (2 : Int) ^ (k + 1)) : lg n ≤ k := by
  unfold lg
  have h2 : n.toNat < 2 ^ (k + 1) := by
    have : n < ((2 ^ (k + 1) : Nat) : Int) := by simpa using hk
    omega
  have := (Nat.log2_lt (n := n.toNat) (k := k + 1) (by omega)).2 h2
  omega
theorem bitLen_lg {n : Int} (h : 1 ≤ n) (h1 : n < 18446744073709551616) : (Lib.bitLen n.toNat : Int) - 1 = (lg n : Int) ∧ 1 ≤ Lib.bitLen n.toNat := by
  have hb := Lib.bitLenAux_bounds 64 n.toNat (by omega) (by omega)
  have e : Lib.bitLen n.toNat = Lib.bitLenAux 64 n.toNat := rfl
  rw [e]
  have h2 := Nat.log2_self_le (n := n.toNat) (by omega)
  have h3 := Nat.lt_log2_self (n := n.toNat)
  have h4 : Lib.bitLenAux 64 n.toNat - 1 = Nat.log2 n.toNat := by
    have a1 : Lib.bitLenAux 64 n.toNat - 1 ≤ Nat.log2 n.toNat := (Nat.le_log2 (by omega)).2 hb.2.1
    have a2 : Nat.log2 n.toNat < Lib.bitLenAux 64 n.toNat := (Nat.log2_lt (by omega)).2 hb.2.2
    omega
  unfold lg
  omega
theorem pow_mono {a b : Nat} (h : a ≤ b) : (2 : Int) ^ a ≤ 2 ^ b := by
  have := Nat.pow_le_pow_right (n := 2) (by omega) h
  have h2 : ((2 ^ a : Nat) : Int) ≤ ((2 ^ b : Nat) : Int) := by omega
  simpa using h2
theorem pow_pos (a : Nat) : (1 : Int) ≤ 2 ^ a := by simpa using pow_mono (Nat.zero_le a)

/-- What a value comes to. -/
def addv (s v c x : Int) : Int := v + (x * 4294967296 - v) / 2 ^ (min s.toNat (lg (c + 1)))
theorem div_mid {a : Int} {k : Nat} (h0 : 0 ≤ a) : 0 ≤ a / 2 ^ k ∧ a / 2 ^ k ≤ a := by
  have h := pow_pos k
  exact ⟨Int.ediv_nonneg h0 (by omega), Int.ediv_le_self _ h0⟩
theorem div_up {a : Int} {k : Nat} (h0 : 0 ≤ a) : 0 ≤ a / 2 ^ k ∧ a / 2 ^ k ≤ a := by
  have h := pow_pos k
  exact ⟨Int.ediv_nonneg h0 (by omega), Int.ediv_le_self _ h0⟩
theorem div_down {a : Int} {k : Nat} (h0 : a ≤ 0) : a ≤ a / 2 ^ k ∧ a / 2 ^ k ≤ 0 := by
  have h := pow_pos k
  refine ⟨?_, ?_⟩
  · rw [Int.le_ediv_iff_mul_le (by omega)]
    have := Int.mul_le_mul_of_nonpos_left h0 h
    omega
  · have := Int.ediv_le_ediv (a := a) (b := 0) (c := 2 ^ k) (by omega) h0
    simpa using this
theorem div_any {a : Int} {k : Nat} (B : Int) (h0 : -B ≤ a) (h1 : a ≤ B) : -B ≤ a / 2 ^ k ∧ a / 2 ^ k ≤ B := by
  rcases Int.le_total 0 a with h | h
  · have := div_up (k := k) h; omega
  · have := div_down (k := k) h; omega
theorem addv_bounds {s v c x : Int} (hv : 0 ≤ v) (hv2 : v ≤ 4611686018427387904) (hx : 0 ≤ x) (hx2 : x ≤ 1073741824) : 0 ≤ addv s v c x ∧ addv s v c x ≤ 4611686018427387904 := by
  unfold addv
  rcases Int.le_total 0 (x * 4294967296 - v) with h | h
  · have := div_up (k := min s.toNat (lg (c + 1))) h; omega
  · have := div_down (k := min s.toNat (lg (c + 1))) h; omega
/-- It moves towards what was taken in, never past it. -/
theorem addv_moves (s v c x : Int) : (v ≤ x * 4294967296 → v ≤ addv s v c x ∧ addv s v c x ≤ x * 4294967296) ∧ (x * 4294967296 ≤ v → x * 4294967296 ≤ addv s v c x ∧ addv s v c x ≤ v) := by
  unfold addv
  refine ⟨fun h => ?_, fun h => ?_⟩
  · have := div_up (a := x * 4294967296 - v) (k := min s.toNat (lg (c + 1))) (by omega); omega
  · have := div_down (a := x * 4294967296 - v) (k := min s.toNat (lg (c + 1))) (by omega); omega
theorem addv_first (s x : Int) : addv s 0 0 x = x * 4294967296 := by
  unfold addv
  have e : min s.toNat (lg (0 + 1)) = 0 := by rw [show (0 : Int) + 1 = 1 from rfl, lg_one]; omega
  rw [e]; simp

/-- The row of Luby, with rounds to spare. -/
def lubF : Nat → Nat → Nat
  | 0, _ => 0
  | f + 1, i => if i + 1 = 2 ^ (Nat.log2 i + 1) then 2 ^ Nat.log2 i else lubF f (i + 1 - 2 ^ Nat.log2 i)
def lub (i : Nat) : Nat := lubF 64 i
theorem log2_step {i : Nat} (h : 1 ≤ i) (hne : i + 1 ≠ 2 ^ (Nat.log2 i + 1)) : 1 ≤ i + 1 - 2 ^ Nat.log2 i ∧ i + 1 - 2 ^ Nat.log2 i < i ∧ i + 1 - 2 ^ Nat.log2 i < 2 ^ Nat.log2 i := by
  have h1 := Nat.log2_self_le (n := i) (by omega)
  have h2 := Nat.lt_log2_self (n := i)
  have h3 : 2 ^ (Nat.log2 i + 1) = 2 * 2 ^ Nat.log2 i := by rw [Nat.pow_succ]; omega
  have h4 : 2 ^ Nat.log2 i ≠ 1 := by
    intro e
    have : i = 1 := by omega
    subst this
    exact hne (by decide)
  have h5 : 1 ≤ 2 ^ Nat.log2 i := Nat.one_le_two_pow
  omega
theorem lubF_more : ∀ (f i : Nat), 1 ≤ i → i < 2 ^ f → lubF (f + 1) i = lubF f i
  | 0, i, h, h1 => by simp at h1; omega
  | f + 1, i, h, h1 => by
    rw [show lubF (f + 1 + 1) i = if i + 1 = 2 ^ (Nat.log2 i + 1) then 2 ^ Nat.log2 i else lubF (f + 1) (i + 1 - 2 ^ Nat.log2 i) from rfl,
      show lubF (f + 1) i = if i + 1 = 2 ^ (Nat.log2 i + 1) then 2 ^ Nat.log2 i else lubF f (i + 1 - 2 ^ Nat.log2 i) from rfl]
    by_cases hc : i + 1 = 2 ^ (Nat.log2 i + 1)
    · rw [if_pos hc, if_pos hc]
    · rw [if_neg hc, if_neg hc]
      obtain ⟨a, b, c⟩ := log2_step h hc
      have hlt : Nat.log2 i < f + 1 := (Nat.log2_lt (by omega)).2 h1
      exact lubF_more f _ a (Nat.lt_of_lt_of_le c (Nat.pow_le_pow_right (by omega) (by omega)))
theorem lub_step {i : Nat} (h : 1 ≤ i) (h1 : i < 2 ^ 64) : lub i = if i + 1 = 2 ^ (Nat.log2 i + 1) then 2 ^ Nat.log2 i else lub (i + 1 - 2 ^ Nat.log2 i) := by
  unfold lub
  by_cases hc : i + 1 = 2 ^ (Nat.log2 i + 1)
  · rw [lubF, if_pos hc, if_pos hc]
  · obtain ⟨a, b, c⟩ := log2_step h hc
    have hlt : Nat.log2 i < 64 := (Nat.log2_lt (by omega)).2 h1
    rw [if_neg hc, lubF, if_neg hc]
    exact (lubF_more 63 _ a (Nat.lt_of_lt_of_le c (Nat.pow_le_pow_right (by omega) (by omega)))).symm
theorem lub_end {i : Nat} (h : 1 ≤ i) (h1 : i < 2 ^ 64) (hc : i + 1 = 2 ^ (Nat.log2 i + 1)) : lub i = 2 ^ Nat.log2 i := by rw [lub_step h h1, if_pos hc]
theorem lub_next {i : Nat} (h : 1 ≤ i) (h1 : i < 2 ^ 64) (hc : i + 1 ≠ 2 ^ (Nat.log2 i + 1)) : lub i = lub (i + 1 - 2 ^ Nat.log2 i) := by rw [lub_step h h1, if_neg hc]
theorem testBit_top {i k : Nat} (h1 : 2 ^ k ≤ i) (h2 : i < 2 ^ (k + 1)) : i.testBit k = true := by
  have h3 : 2 ^ (k + 1) = 2 * 2 ^ k := by rw [Nat.pow_succ]; omega
  have h4 : i / 2 ^ k = 1 := by
    have a : 1 ≤ i / 2 ^ k := (Nat.le_div_iff_mul_le (by omega)).2 (by omega)
    have b : i / 2 ^ k < 2 := (Nat.div_lt_iff_lt_mul (by omega)).2 (by omega)
    omega
  rw [Nat.testBit_eq_decide_div_mod_eq, h4]; rfl
theorem and_zero {i : Nat} (h : 1 ≤ i) : i &&& (i + 1) = 0 ↔ i + 1 = 2 ^ (Nat.log2 i + 1) := by
  have h1 := Nat.log2_self_le (n := i) (by omega)
  have h2 := Nat.lt_log2_self (n := i)
  have h3 : 2 ^ (Nat.log2 i + 1) = 2 * 2 ^ Nat.log2 i := by rw [Nat.pow_succ]; omega
  constructor
  · intro he
    rcases Nat.lt_or_ge (i + 1) (2 ^ (Nat.log2 i + 1)) with hlt | hge
    · exfalso
      have t1 : i.testBit (Nat.log2 i) = true := testBit_top h1 h2
      have t2 : (i + 1).testBit (Nat.log2 i) = true := testBit_top (by omega) hlt
      have t3 : (i &&& (i + 1)).testBit (Nat.log2 i) = true := by rw [Nat.testBit_and, t1, t2]; rfl
      rw [he, Nat.zero_testBit] at t3
      cases t3
    · omega
  · intro he
    rw [he]
    have e : i = 2 ^ (Nat.log2 i + 1) - 1 := by omega
    generalize hk : Nat.log2 i + 1 = k at e he ⊢
    rw [e]
    apply Nat.eq_of_testBit_eq
    intro j
    rw [Nat.testBit_and, Nat.testBit_two_pow_sub_one, Nat.testBit_two_pow, Nat.zero_testBit]
    by_cases hj : j < k
    · simp [hj]; omega
    · simp [hj]
theorem lub_bd : ∀ (m i : Nat), i ≤ m → 1 ≤ i → i < 2 ^ 64 → 1 ≤ lub i ∧ lub i ≤ i
  | 0, i, h, h0, _ => by omega
  | m + 1, i, h, h0, h1 => by
    by_cases hc : i + 1 = 2 ^ (Nat.log2 i + 1)
    · rw [lub_end h0 h1 hc]
      exact ⟨Nat.one_le_two_pow, Nat.log2_self_le (by omega)⟩
    · obtain ⟨a, b, _⟩ := log2_step h0 hc
      rw [lub_next h0 h1 hc]
      have := lub_bd m (i + 1 - 2 ^ Nat.log2 i) (by omega) a (by omega)
      omega
theorem lub_le {i : Nat} (h0 : 1 ≤ i) (h1 : i < 2 ^ 64) : 1 ≤ lub i ∧ lub i ≤ i := lub_bd i i (Nat.le_refl _) h0 h1
theorem lub_pow : ∀ (m i : Nat), i ≤ m → 1 ≤ i → i < 2 ^ 64 → ∃ k, lub i = 2 ^ k
  | 0, i, h, h0, _ => by omega
  | m + 1, i, h, h0, h1 => by
    by_cases hc : i + 1 = 2 ^ (Nat.log2 i + 1)
    · exact ⟨_, lub_end h0 h1 hc⟩
    · obtain ⟨a, b, _⟩ := log2_step h0 hc
      rw [lub_next h0 h1 hc]
      exact lub_pow m (i + 1 - 2 ^ Nat.log2 i) (by omega) a (by omega)
end Go.Proofs.Ytejikplmmmjjpaa.AvgM
