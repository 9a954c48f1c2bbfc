/- AverageLuby's walk. Conditions: none. -/
import Derived.Test.YtejikplmmmjjpaaLuC
namespace Go.Proofs.Ytejikplmmmjjpaa.Avg
open Go.RowKit Go.Proofs.Ytejikplmmmjjpaa.Mem Go.Proofs.Ytejikplmmmjjpaa.AvgM
set_option linter.unusedVariables false

theorem lub_max : lub 9223372036854775807 = 4611686018427387904 := by
  rw [show (9223372036854775807 : Nat) = 2 ^ (62 + 1) - 1 by decide]
  have hl : Nat.log2 (2 ^ (62 + 1) - 1) = 62 := log2_is (by decide) (by decide)
  rw [lub_end (by decide) (by decide) (by rw [hl]), hl]
set_option maxHeartbeats 2000000 in
theorem avgLuby_any (i : Int) (hi : -9223372036854775808 ≤ i ∧ i ≤ 9223372036854775807) (n : Int) (hn : 0 ≤ n ∧ n ≤ 65535) (w : World) :
    Calls Try.prog 6 #[.int .i64 i, .int .u16 n] w fun e w' => e = .returned (.bool true) ∧ Below w.heap.size w w' := by
  obtain ⟨m, hm⟩ : ∃ m : Nat, n.tmod 1000 = (m : Int) := ⟨(n.tmod 1000).toNat, by
    have := Int.tmod_nonneg 1000 hn.1; omega⟩
  have hm2 : m ≤ 999 := by have := Int.tmod_lt_of_pos n (b := 1000) (by decide); omega
  have HRW := Lib.hid (fun W => rows_any m hm2 W)
  have HWK := Lib.hid (fun W => works_ok W)
  have w16 : IntKind.u16.wrap (m : Int) = (m : Int) := by rw [IntKind.wrap_u16]; omega
  have w64 : IntKind.i64.wrap (m : Int) = (m : Int) := by rw [IntKind.wrap_i64]; omega
  by_cases h0 : i < 1
  · have HA := Lib.hid (fun W => luby_bad i W h0)
    have HB := Lib.hid (fun W => rluby_bad i W h0)
    clear hi h0
    go_enter Try.func6, Try.ntmps6
    go_wp2_with fail
    refine (HA.out _).mono ?_
    rintro e w1 ⟨rfl, rfl⟩
    go_wp2_with fail
    refine (HB.out _).mono ?_
    rintro e w1 ⟨rfl, rfl⟩
    go_wp2_with fail
    refine (HRW.out _).mono ?_
    rintro e w2 ⟨rfl, hb2⟩
    have HB2 := Lib.hid hb2
    clear hb2
    go_wp2_with fail
    refine (HRW.out _).mono ?_
    rintro e w3 ⟨rfl, hb3⟩
    have HB3 := Lib.hid (HB2.out.trans (hb3.mono HB2.out.size))
    clear hb3
    go_wp2_with fail
    refine (HWK.out _).mono ?_
    rintro e w4 ⟨rfl, hb4⟩
    have HB4 := Lib.hid (HB3.out.trans (hb4.mono HB3.out.size))
    clear hb4
    go_wp2
    go_ret
    exact ⟨rfl, HB4.out⟩
  · obtain ⟨V, hV, HA, HB, hb, ht⟩ : ∃ V : Int, (1 ≤ V ∧ V ≤ 9223372036854775806) ∧ (∀ W, Calls Try.prog 18 #[.int .i64 i] W fun e w' => e = .returned (.tuple #[.int .i64 V, .int .i64 0]) ∧ W = w') ∧
      (∀ W, Calls Try.prog 19 #[.int .i64 i] W fun e w' => e = .returned (.tuple #[.int .i64 V, .int .i64 0]) ∧ ∃ k, w' = W.drewN k) ∧ True ∧ bits .and .i64 V (V - 1) = 0 := by
      obtain ⟨j, rfl⟩ : ∃ j : Nat, i = (j : Int) := ⟨i.toNat, by omega⟩
      by_cases hj : j = 9223372036854775807
      · subst hj
        refine ⟨4611686018427387904, by omega, fun W => luby_top W, fun W => ?_, trivial, ?_⟩
        · have := rluby_any 9223372036854775807 W (by omega) (by omega)
          rw [lub_max] at this
          exact this
        · have h1 := i64_and_nat 4611686018427387904 4611686018427387903 (by omega) (by omega)
          have h2 := pow_and 62
          rw [show (2 : Nat) ^ 62 = 4611686018427387904 by decide] at h2
          rw [show (4611686018427387904 : Nat) - 1 = 4611686018427387903 by decide] at h2
          rw [h2] at h1
          exact h1
      · have hl := lub_test (i := j) (by omega) (by omega)
        exact ⟨(lub j : Int), ⟨hl.1, hl.2.1⟩, fun W => luby_ok j W (by omega) (by omega), fun W => rluby_any j W (by omega) (by omega), trivial, hl.2.2⟩
    have HLA := Lib.hid HA
    have HLB := Lib.hid HB
    have hv1 : ¬ V < 1 := by omega
    have hv2 : IntKind.i64.wrap (V - 1) = V - 1 := by rw [IntKind.wrap_i64]; omega
    clear HA HB hb h0
    go_enter Try.func6, Try.ntmps6
    go_wp2_with fail
    refine (HLA.out _).mono ?_
    rintro e w1 ⟨rfl, rfl⟩
    go_wp2_with fail
    refine (HLB.out _).mono ?_
    rintro e w1 ⟨rfl, q, hq⟩
    have HB1 := Lib.hid (show Below w.heap.size w w1 from by rw [hq]; exact belowN (Below.refl _ _) q)
    clear hq
    go_wp2_with fail
    refine (HRW.out _).mono ?_
    rintro e w2 ⟨rfl, hb2⟩
    have HB2 := Lib.hid (HB1.out.trans (hb2.mono HB1.out.size))
    clear hb2
    go_wp2_with fail
    refine (HRW.out _).mono ?_
    rintro e w3 ⟨rfl, hb3⟩
    have HB3 := Lib.hid (HB2.out.trans (hb3.mono HB2.out.size))
    clear hb3
    go_wp2_with fail
    refine (HWK.out _).mono ?_
    rintro e w4 ⟨rfl, hb4⟩
    have HB4 := Lib.hid (HB3.out.trans (hb4.mono HB3.out.size))
    clear hb4
    go_wp2
    go_ret
    exact ⟨rfl, HB4.out⟩
end Go.Proofs.Ytejikplmmmjjpaa.Avg
