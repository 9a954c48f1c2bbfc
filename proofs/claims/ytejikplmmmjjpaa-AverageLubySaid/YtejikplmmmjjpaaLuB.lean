/- comes; the row's iterator. Conditions: the bounds. -/
import Derived.Test.YtejikplmmmjjpaaAvgK
import Derived.Test.YtejikplmmmjjpaaLuA
import Derived.Test.YtejikplmmmjjpaaRgT
import Derived.Shelf.RegionOpen
import Derived.OwnWalkIn
import Derived.TacticsInMore
import Derived.LoopNIn
import Derived.LoopIn
namespace Go.Proofs.Ytejikplmmmjjpaa.Avg
open Go.RowKit Go.Proofs.Ytejikplmmmjjpaa.Mem Go.Proofs.Ytejikplmmmjjpaa.AvgM
set_option linter.unusedVariables false
attribute [local go_sem] Oper.semAt_some

theorem i64_and_nat (a b : Nat) (ha : a < 9223372036854775808) (hb : b < 9223372036854775808) : bits .and .i64 (a : Int) (b : Int) = ((a &&& b : Nat) : Int) := by
  have hx : a &&& b < 2 ^ 63 := Nat.and_lt_two_pow _ (by omega)
  show IntKind.i64.wrap ((BitVec.ofInt 64 (a : Int) &&& BitVec.ofInt 64 (b : Int)).toNat : Int) = _
  rw [BitVec.toNat_and, ofInt_u64 a (by omega), ofInt_u64 b (by omega), IntKind.wrap_i64]
  omega
theorem pow_and (m : Nat) : 2 ^ m &&& (2 ^ m - 1) = 0 := by
  rcases m with _ | m
  · decide
  · have h1 : 2 ^ (m + 1) = 2 * 2 ^ m := by rw [Nat.pow_succ]; omega
    have hp := Nat.two_pow_pos m
    have hl : Nat.log2 (2 ^ (m + 1) - 1) = m := log2_is (by omega) (by omega)
    have := (and_zero (i := 2 ^ (m + 1) - 1) (by omega)).2 (by rw [hl]; omega)
    rw [Nat.and_comm]
    rwa [show 2 ^ (m + 1) - 1 + 1 = 2 ^ (m + 1) by omega] at this
/-- The test of the law: a power of two. -/
theorem lub_test {i : Nat} (h0 : 1 ≤ i) (h1 : i ≤ 9223372036854775806) : (1 : Int) ≤ (lub i : Int) ∧ (lub i : Int) ≤ 9223372036854775806 ∧ bits .and .i64 (lub i : Int) ((lub i : Int) - 1) = 0 := by
  have hb := lub_le h0 (by omega)
  obtain ⟨m, hm⟩ := lub_pow i i (Nat.le_refl _) h0 (by omega)
  refine ⟨by omega, by omega, ?_⟩
  rw [show ((lub i : Int) - 1) = ((lub i - 1 : Nat) : Int) by omega, i64_and_nat _ _ (by omega) (by omega), hm, pow_and]
  rfl
/-- Is k one less than a power of two? -/
theorem row_test {k : Nat} (h0 : 1 ≤ k) (h : k ≤ 1000) : (bits .and .i64 (k : Int) ((k : Int) + 1) == 0) = decide (k + 1 = 2 ^ (Nat.log2 k + 1)) := by
  have e : ((k : Int) + 1) = ((k + 1 : Nat) : Int) := by omega
  rw [e, i64_and_nat k (k + 1) (by omega) (by omega)]
  have := and_zero h0
  by_cases hc : k + 1 = 2 ^ (Nat.log2 k + 1)
  · rw [decide_eq_true hc, this.2 hc]; rfl
  · rw [decide_eq_false hc]
    have hne : k &&& (k + 1) ≠ 0 := fun e => hc (this.1 e)
    rw [beq_eq_false_iff_ne]
    omega
theorem comes_any (k : Nat) (h0 : 1 ≤ k) (h : k ≤ 1000) (hc : k + 1 = 2 ^ (Nat.log2 k + 1)) (w : World) :
    Calls Try.prog 33 #[.int .i64 k, .int .i64 (lubS k : Int)] w fun e w' => e = .returned (.bool true) ∧ w = w' := by
  have hj : Nat.log2 k ≤ 9 := by
    have : Nat.log2 k < 10 := (Nat.log2_lt (by omega)).2 (by omega)
    omega
  obtain ⟨J, hJ⟩ : ∃ J, J = Nat.log2 k := ⟨_, rfl⟩
  rw [← hJ] at hc hj
  have hk : k = 2 ^ (J + 1) - 1 := by omega
  have hs := lubS_pow (J + 1) (by omega)
  rw [← hk] at hs
  have hp2 : 2 ^ (J + 1) = 2 * 2 ^ J := by rw [Nat.pow_succ]; omega
  have hs2 : lubS k = (J + 1) * 2 ^ J := by
    rw [hp2, Nat.mul_left_comm] at hs
    omega
  have hpi : ((2 ^ J : Nat) : Int) = (2 : Int) ^ J := by simp
  have hki : (k : Int) = 2 * (2 : Int) ^ J - 1 := by omega
  have hsi : ((lubS k : Nat) : Int) = ((J : Int) + 1) * (2 : Int) ^ J := by rw [hs2]; push_cast; rfl
  have hpb : (1 : Int) ≤ 2 ^ J ∧ (2 : Int) ^ J ≤ 512 := by omega
  have hmb : 0 ≤ ((J : Int) + 1) * (2 : Int) ^ J ∧ ((J : Int) + 1) * (2 : Int) ^ J ≤ 10 * 512 := ⟨Int.mul_nonneg (by omega) (by omega), Int.mul_le_mul (by omega) (by omega) (by omega) (by omega)⟩
  rw [hsi]
  have c1 : IntKind.i64.wrap ((2 : Int) ^ J) = (2 : Int) ^ J := IntWalk.i64_in _ (by omega)
  have c2 : IntKind.i64.wrap (((J : Int) + 1) * (2 : Int) ^ J) = ((J : Int) + 1) * (2 : Int) ^ J := IntWalk.i64_in _ (by omega)
  have HKI := Lib.hid hki
  clear hs hs2 hk hc hJ hp2 hpi hsi hki
  go_enter Try.func33, Try.ntmps33
  go_wp2
  go_loop [5] (fun v => ∃ j : Nat, j ≤ J + 1 ∧ v = .int .i64 j) (fun v => 12 - (intOf v).toNat)
  case atStart => exact ⟨0, Nat.zero_le _, rfl⟩
  case round =>
    obtain ⟨j, hjJ, rfl⟩ := hrel
    have hle : (1 : Int) ≤ 2 ^ j := by have := Nat.two_pow_pos j; have e : ((2 ^ j : Nat) : Int) = (2 : Int) ^ j := by simp
                                       omega
    by_cases hlt : j ≤ J
    · have hpj : (2 : Int) ^ j ≤ (2 : Int) ^ J := by
        have h1 : 2 ^ j ≤ 2 ^ J := Nat.pow_le_pow_right (by omega) hlt
        have e1 : ((2 ^ j : Nat) : Int) = (2 : Int) ^ j := by simp
        have e2 : ((2 ^ J : Nat) : Int) = (2 : Int) ^ J := by simp
        omega
      have d1 : IntKind.i64.wrap ((2 : Int) ^ j) = (2 : Int) ^ j := IntWalk.i64_in _ (by omega)
      have d2 : (2 : Int) ^ j ≤ (k : Int) := by have := HKI.out; omega
      go_wp2
      go_round
      case rel => exact ⟨j + 1, by omega, by go_num⟩
      case measure => simp only [intOf]; omega
    · obtain rfl : j = J + 1 := by omega
      have e3 : (2 : Int) ^ (J + 1) = 2 * (2 : Int) ^ J := by rw [Int.pow_succ]; omega
      have d1 : IntKind.i64.wrap ((2 : Int) ^ (J + 1)) = (2 : Int) ^ (J + 1) := IntWalk.i64_in _ (by omega)
      have d2 : ¬ (2 : Int) ^ (J + 1) ≤ (k : Int) := by have := HKI.out; omega
      go_wp2
      go_ret
      exact ⟨rfl, rfl⟩
theorem row_any (w : World) : Calls Try.prog 32 #[] w fun e w' => e = .returned (.func (.func 35) #[] #[]) ∧ w = w' := by
  go_enter Try.func32, Try.ntmps32
  go_wp2
  go_ret
  exact ⟨rfl, rfl⟩
/-- The row's iterator tells the row, as long as it is asked. -/
theorem row_till (n M : Nat) (hn : 1 ≤ n) (hM : M ≤ 1000) : Rg.SeqTill Fence.wide n Try.prog 35 #[] (fun k => #[.int .i64 (lub (k + 1) : Int)]) M := fun l J Jx W hJ hY h0 => by
  have HY := Lib.hid hY
  have HJM := Lib.hid hJ
  have HJ0 := Lib.hid h0
  clear hY hJ h0
  refine callsIn_of_wp Try.func35 rfl trivial ?_ rfl
  simp only [Try.ntmps35, List.size_toArray, List.length_cons, List.length_nil, Nat.reduceAdd, Nat.reduceSub, Array.replicate_succ, Array.replicate_zero, List.push_toArray, List.append_toArray, List.nil_append, List.cons_append]
  gi_wp2
  gi_loopw [2] (fun p wr => ∃ k : Nat, k ≤ M ∧ p = .int .u64 ((k : Int) + 1) ∧ J k wr) (fun p _ => M + 1 - (intOf p).toNat)
  case atStart => exact ⟨0, Nat.zero_le _, rfl, HJ0.out⟩
  case round =>
    obtain ⟨k, hk, rfl, hJk⟩ := hrel
    obtain ⟨fn, tmps, assign, body, hy, hR⟩ := HY.out k wr hJk
    have HL := Lib.hid (luby_any (k + 1) wr (by omega) (by omega))
    rw [show ((k + 1 : Nat) : Int) = (k : Int) + 1 by omega] at HL
    have w64 : IntKind.u64.wrap ((k : Int) + 1 + 1) = (k : Int) + 1 + 1 := IntWalk.u64_in _ (by omega)
    gi_wp2_with fail
    refine ⟨trivial, (callsIn_wide.2 HL.out).mono ?_⟩
    rintro e w2 ⟨rfl, rfl⟩
    clear HL
    gi_wp2
    refine hR.mono ?_
    rintro e W3 (⟨rfl, hJ3⟩ | ⟨rfl, hJx3⟩)
    · have HJ3 := Lib.hid hJ3
      have HB3 := Lib.hid (HJM.out _ _ hJ3)
      clear hJ3
      gi_wp2
      go_roundw
      case rel => exact ⟨k + 1, HB3.out, by first | rfl | go_num, HJ3.out⟩
      case measure => have := HB3.out; simp [intOf]; omega
    · gi_wp2
      go_end0
      exact ⟨⟨_, rfl⟩, hJx3⟩
end Go.Proofs.Ytejikplmmmjjpaa.Avg
