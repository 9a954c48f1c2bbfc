/- The walks of the row of Luby, of both: numbers from 1 to 2^63 - 1 (2^63 - 2 for the inner function). -/
import Derived.Test.YtejikplmmmjjpaaAvgW
import Derived.Laws.BitsAllLaws
namespace Go.Proofs.Ytejikplmmmjjpaa.Avg
open Go.RowKit Go.Proofs.Ytejikplmmmjjpaa.Mem Go.Proofs.Ytejikplmmmjjpaa.AvgM
set_option linter.unusedVariables false

theorem and_test {i : Nat} (h0 : 1 ≤ i) (h : i < 18446744073709551615) : (bits .and .u64 (i : Int) ((i : Int) + 1) == 0) = decide (i + 1 = 2 ^ (Nat.log2 i + 1)) := by
  have e : ((i : Int) + 1) = ((i + 1 : Nat) : Int) := by omega
  rw [e, u64_and_nat i (i + 1) (by omega) (by omega)]
  have := and_zero h0
  by_cases hc : i + 1 = 2 ^ (Nat.log2 i + 1)
  · rw [decide_eq_true hc, this.2 hc]; rfl
  · rw [decide_eq_false hc]
    have hne : i &&& (i + 1) ≠ 0 := fun e => hc (this.1 e)
    rw [beq_eq_false_iff_ne]
    omega
theorem len_any (i : Nat) (h0 : 1 ≤ i) (h1 : i ≤ 9223372036854775806) (w : World) :
    Calls Try.prog 28 #[.int .u64 i] w fun e w' => e = .returned (.int .i64 ((Nat.log2 i : Int) + 1)) ∧ w = w' :=
  (Try.bits_Len64 i w (by omega) (by omega)).mono fun e w' ⟨he, hw⟩ => ⟨by
    have := (bitLen_lg (n := (i : Int)) (by omega) (by omega)).1
    have e2 : lg (i : Int) = Nat.log2 i := by unfold lg; rw [Int.toNat_natCast]
    rw [e2] at this
    rw [he]
    exact ret_i64 (by omega), hw.symm⟩
theorem log_facts {i : Nat} (h0 : 1 ≤ i) (h1 : i ≤ 9223372036854775807) : Nat.log2 i ≤ 62 ∧ (2 : Int) ^ Nat.log2 i ≤ i ∧ (i : Int) < 2 * 2 ^ Nat.log2 i ∧ (1 : Int) ≤ 2 ^ Nat.log2 i := by
  have a := Nat.log2_self_le (n := i) (by omega)
  have b := Nat.lt_log2_self (n := i)
  have c : Nat.log2 i < 63 := (Nat.log2_lt (by omega)).2 (by omega)
  have d : 2 ^ (Nat.log2 i + 1) = 2 * 2 ^ Nat.log2 i := by rw [Nat.pow_succ]; omega
  have e : ((2 ^ Nat.log2 i : Nat) : Int) = (2 : Int) ^ Nat.log2 i := by simp
  have f := pow_pos (Nat.log2 i)
  exact ⟨by omega, by omega, by omega, f⟩
set_option maxRecDepth 100000 in
theorem luby_any (n : Nat) (w : World) (h0 : 1 ≤ n) (h1 : n ≤ 9223372036854775806) :
    Calls Try.prog 31 #[.int .u64 n] w fun e w' => e = .returned (.int .i64 (lub n : Int)) ∧ w = w' := by
  go_enter Try.func31, Try.ntmps31
  go_wp2
  go_loop [0] (fun v => ∃ i : Nat, 1 ≤ i ∧ i ≤ 9223372036854775806 ∧ lub i = lub n ∧ v = .int .u64 i) (fun v => (intOf v).toNat)
  case atStart => exact ⟨n, h0, h1, rfl, rfl⟩
  case round =>
    obtain ⟨i, hi0, hi1, hi2, rfl⟩ := hrel
    have HI := Lib.hid hi2
    clear hi2
    obtain ⟨k62, hk1, hk2, hk3⟩ := log_facts hi0 (by omega)
    have hd : 2 ^ (Nat.log2 i + 1) = 2 * 2 ^ Nat.log2 i := by rw [Nat.pow_succ]; omega
    have HD := Lib.hid hd
    clear hd
    have he : ((2 ^ Nat.log2 i : Nat) : Int) = (2 : Int) ^ Nat.log2 i := by simp
    have HE := Lib.hid he
    clear he
    by_cases hc : i + 1 = 2 ^ (Nat.log2 i + 1)
    · have ht : (bits .and .u64 (i : Int) ((i : Int) + 1) == 0) = true := by rw [and_test hi0 (by omega)]; exact decide_eq_true hc
      have HC := Lib.hid hc
      clear hc
      go_wp2_with fail
      go_ret
      refine ⟨ret_i64 ?_, rfl⟩
      rw [← HI.out, lub_end hi0 (by omega) HC.out]
      have := HC.out; have := HD.out; have := HE.out
      omega
    · have ht : (bits .and .u64 (i : Int) ((i : Int) + 1) == 0) = false := by rw [and_test hi0 (by omega)]; exact decide_eq_false hc
      have HC := Lib.hid hc
      clear hc
      have hc28 := Lib.hid (len_any i hi0 hi1)
      have HS := Lib.hid (log2_step hi0 HC.out)
      go_wp2_with fail
      generalize hlk : Nat.log2 i = k at *
      have HLK := Lib.hid hlk
      clear hlk
      refine (hc28.out _).mono ?_
      rintro e w' ⟨rfl, rfl⟩
      go_wp2
      have a1 := HS.out.1
      have a2 := HS.out.2.1
      have a3 := HE.out
      have a4 : ((i + 1 - 2 ^ k : Nat) : Int) = (i : Int) - (2 ^ k - 1) := by omega
      go_round
      case rel => exact ⟨i + 1 - 2 ^ k, a1, by omega, by rw [← HI.out, lub_next hi0 (by omega) (by rw [HLK.out]; exact HC.out), HLK.out], by rw [a4]⟩
      case measure => simp only [intOf]; omega
theorem rluby_any (n : Nat) (w : World) (h0 : 1 ≤ n) (h1 : n ≤ 9223372036854775807) :
    Calls Try.prog 19 #[.int .i64 n] w fun e w' => e = .returned (.tuple #[.int .i64 (lub n : Int), .int .i64 0]) ∧ ∃ k, w' = w.drewN k := by
  go_enter Try.func19, Try.ntmps19
  go_wp2
  go_loopw [0] (fun v wr => ∃ i k : Nat, 1 ≤ i ∧ i ≤ 9223372036854775807 ∧ lub i = lub n ∧ v = .int .i64 i ∧ wr = w.drewN k) (fun v _ => (intOf v).toNat)
  case atStart => exact ⟨n, 0, h0, h1, rfl, rfl, rfl⟩
  case round =>
    obtain ⟨i, q, hi0, hi1, hi2, rfl, rfl⟩ := hrel
    have HI := Lib.hid hi2
    clear hi2
    obtain ⟨k62, hk1, hk2, hk3⟩ := log_facts hi0 (by omega)
    have hd : 2 ^ (Nat.log2 i + 1) = 2 * 2 ^ Nat.log2 i := by rw [Nat.pow_succ]; omega
    have HD := Lib.hid hd
    clear hd
    have he : ((2 ^ Nat.log2 i : Nat) : Int) = (2 : Int) ^ Nat.log2 i := by simp
    have HE := Lib.hid he
    clear he
    have hc30 : ∀ w, Calls Try.prog 30 #[.int .i64 i] w fun e w' => e = .returned (.int .i64 (Nat.log2 i : Int)) ∧ w = w' := fun w =>
      (log_any (i : Int) w (by omega) (by omega)).mono fun e w' ⟨he, hw⟩ => ⟨by rw [he, show lg (i : Int) = Nat.log2 i by unfold lg; rw [Int.toNat_natCast]], hw⟩
    have HC30 := Lib.hid hc30
    clear hc30
    by_cases hc : i + 1 = 2 ^ (Nat.log2 i + 1)
    · have HC := Lib.hid hc
      clear hc
      have ht : ((i : Int) == 2 ^ Nat.log2 i - 1 + 2 ^ Nat.log2 i) = true := by
        have := HC.out; have := HD.out; have := HE.out
        rw [beq_iff_eq]; omega
      have b1 : IntKind.i64.wrap (2 ^ Nat.log2 i) = 2 ^ Nat.log2 i := IntWalk.i64_in _ (by omega)
      have b2 : IntKind.i64.wrap (2 ^ Nat.log2 i - 1) = 2 ^ Nat.log2 i - 1 := IntWalk.i64_in _ (by omega)
      have b3 : IntKind.i64.wrap (2 ^ Nat.log2 i - 1 + 2 ^ Nat.log2 i) = 2 ^ Nat.log2 i - 1 + 2 ^ Nat.log2 i := by
        have := HC.out; have := HD.out; have := HE.out
        exact IntWalk.i64_in _ (by omega)
      have hfin := Lib.hid (show ((2 : Int) ^ Nat.log2 i) = (lub n : Int) by rw [← HI.out, lub_end hi0 (by omega) HC.out]; exact HE.out.symm)
      go_wp2_with fail
      refine (HC30.out _).mono ?_
      rintro e w' ⟨rfl, rfl⟩
      go_wp2
      go_quiet (fail)
      clear b1 b2 b3
      go_wp2
      go_ret2
      exact ⟨by rw [hfin.out]; rfl, _, rfl⟩
    · have HC := Lib.hid hc
      clear hc
      have ht : ((i : Int) == 2 ^ Nat.log2 i - 1 + 2 ^ Nat.log2 i) = false := by
        have := HC.out; have := HD.out; have := HE.out
        rw [beq_eq_false_iff_ne]; omega
      have b1 : IntKind.i64.wrap (2 ^ Nat.log2 i) = 2 ^ Nat.log2 i := IntWalk.i64_in _ (by omega)
      have b2 : IntKind.i64.wrap (2 ^ Nat.log2 i - 1) = 2 ^ Nat.log2 i - 1 := IntWalk.i64_in _ (by omega)
      have hk4 : (2 : Int) ^ Nat.log2 i ≤ 4611686018427387904 := by
        have := pow_mono k62
        rw [show (2 : Int) ^ 62 = 4611686018427387904 from rfl] at this
        exact this
      have b3 : IntKind.i64.wrap (2 ^ Nat.log2 i - 1 + 2 ^ Nat.log2 i) = 2 ^ Nat.log2 i - 1 + 2 ^ Nat.log2 i := IntWalk.i64_in _ (by omega)
      have HS := Lib.hid (log2_step hi0 HC.out)
      go_wp2_with fail
      refine (HC30.out _).mono ?_
      rintro e w' ⟨rfl, rfl⟩
      go_wp2
      go_quiet (fail)
      clear b1 b2 b3
      go_wp2
      have a1 := HS.out.1
      have a2 := HS.out.2.1
      have a3 := HE.out
      have a4 : ((i + 1 - 2 ^ Nat.log2 i : Nat) : Int) = (i : Int) - 2 ^ Nat.log2 i + 1 := by omega
      go_roundw
      case rel => exact ⟨i + 1 - 2 ^ Nat.log2 i, _, a1, by omega, by rw [← HI.out, lub_next hi0 (by omega) HC.out], by rw [a4], rfl⟩
      case measure => simp only [intOf]; omega
end Go.Proofs.Ytejikplmmmjjpaa.Avg
