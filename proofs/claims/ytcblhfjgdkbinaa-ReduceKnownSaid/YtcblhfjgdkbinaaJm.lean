/- ReduceLimits' walk. Conditions: none. -/
import Derived.Test.YtcblhfjgdkbinaaJl
namespace Go.Proofs.Ytcblhfjgdkbinaa.Re
open Go.RowKit Go.Proofs.Ytcblhfjgdkbinaa.Mem Go.Proofs.Ytcblhfjgdkbinaa.Sl Go.Shelf Go.Sort Go.Proofs.Ytcblhfjgdkbinaa.Sr
open Go.Proofs.Ytcblhfjgdkbinaa.FnL (enc_at below_then)
set_option linter.unusedVariables false

set_option maxHeartbeats 2000000 in
theorem limits_any (f n : Int) (wf : (Lit.int .i64 f).wf = true) (wn : (Lit.int .i64 n).wf = true) (w : World) : Calls Try.prog 4 #[.int .i64 f, .int .i64 n] w fun e w' => e = .returned (.bool true) ∧ Below w.heap.size w w' := by
  have HW := Lib.hid (works_any w)
  clear wf wn
  by_cases hskip : 3000 < n ∧ n ≤ 1000000
  · obtain ⟨h1, h2⟩ := hskip
    go_enter Try.func4, Try.ntmps4
    go_wp2
    go_ret
    exact ⟨rfl, Below.refl _ _⟩
  · by_cases hok : okLim f n
    · obtain ⟨h1, h2, h3, h4⟩ := hok
      obtain ⟨k, rfl⟩ : ∃ k : Nat, n = (k : Int) := ⟨n.toNat, by omega⟩
      have hk : k ≤ 3000 := by omega
      have HL := Lib.hid (fun W => limit_ok f k ⟨h1, h2, h3, h4⟩ W)
      have HR := Lib.hid (fun W => rlimit_ok f k ⟨h1, h2, h3, h4⟩ hk W)
      have k1 : ¬ 3000 < (k : Int) := by omega
      by_cases hbig : 2998 < (k : Int)
      · generalize f * tri k = V at *
        clear hskip
        go_enter Try.func4, Try.ntmps4
        go_wp2_with fail
        refine (HL.out _).mono ?_
        rintro e w1 ⟨rfl, rfl⟩
        go_wp2_with fail
        refine (HR.out _).mono ?_
        rintro e w1 ⟨rfl, rfl⟩
        go_wp2_with fail
        refine HW.out.mono ?_
        rintro e w1 ⟨rfl, hb⟩
        have HB := Lib.hid hb
        clear hb
        go_wp2
        go_ret
        exact ⟨rfl, HB.out⟩
      · have HL1 := Lib.hid (fun W => limit_ok f (k + 1) ⟨h1, h2, by omega, by omega⟩ W)
        have HL2 := Lib.hid (fun W => limit_ok f (k + 2) ⟨h1, h2, by omega, by omega⟩ W)
        have b0 := lim_b (f := f) (k := k) h1 h2 (by omega)
        have b1 := lim_b (f := f) (k := k + 1) h1 h2 (by omega)
        have b2 := lim_b (f := f) (k := k + 2) h1 h2 (by omega)
        have e1 : f * tri (k + 1) = f * tri k + f * ((k : Int) + 1) := by rw [tri, Int.mul_add]
        have e2 : f * tri (k + 2) = f * tri (k + 1) + (f * ((k : Int) + 1) + f) := by
          rw [show k + 2 = (k + 1) + 1 from rfl, tri, Int.mul_add]
          push_cast
          rw [Int.mul_add f ((k : Int) + 1) 1, Int.mul_one]
        have p1 : 1 * 1 ≤ f * ((k : Int) + 1) := Int.mul_le_mul h1 (by omega) (by omega) (by omega)
        rw [show ((k + 1 : Nat) : Int) = (k : Int) + 1 by omega] at HL1
        rw [show ((k + 2 : Nat) : Int) = (k : Int) + 2 by omega] at HL2
        generalize f * tri (k + 2) = V2 at *
        generalize f * tri (k + 1) = V1 at *
        generalize f * tri k = V at *
        generalize f * ((k : Int) + 1) = p at *
        have r1 : V < V1 := by omega
        have r2 : V1 - V < V2 - V1 := by omega
        have r3 : 0 ≤ V1 - V ∧ V1 - V ≤ 1000000000000000000 := by omega
        have r4 : 0 ≤ V2 - V1 ∧ V2 - V1 ≤ 1000000000000000000 := by omega
        clear hskip e1 e2 p1
        go_enter Try.func4, Try.ntmps4
        go_wp2_with fail
        refine (HL.out _).mono ?_
        rintro e w1 ⟨rfl, rfl⟩
        go_wp2_with fail
        refine (HR.out _).mono ?_
        rintro e w1 ⟨rfl, rfl⟩
        go_wp2_with fail
        refine (HL1.out _).mono ?_
        rintro e w1 ⟨rfl, rfl⟩
        go_wp2_with fail
        refine (HL2.out _).mono ?_
        rintro e w1 ⟨rfl, rfl⟩
        go_wp2_with fail
        refine HW.out.mono ?_
        rintro e w1 ⟨rfl, hb⟩
        have HB := Lib.hid hb
        clear hb
        go_wp2
        go_ret
        exact ⟨rfl, HB.out⟩
    · have HL := Lib.hid (fun W => limit_bad f n hok W)
      have HR := Lib.hid (fun W => rlimit_bad f n hok W)
      clear hok
      rcases (show n ≤ 3000 ∨ (3000 < n ∧ 1000000 < n) by omega) with h1 | ⟨h1, h2⟩
      all_goals
        clear hskip
        go_enter Try.func4, Try.ntmps4
        go_wp2_with fail
        refine (HL.out _).mono ?_
        rintro e w1 ⟨rfl, rfl⟩
        go_wp2_with fail
        refine (HR.out _).mono ?_
        rintro e w1 ⟨rfl, rfl⟩
        go_wp2_with fail
        refine HW.out.mono ?_
        rintro e w1 ⟨rfl, hb⟩
        have HB := Lib.hid hb
        clear hb
        go_wp2
        go_ret
        exact ⟨rfl, HB.out⟩
end Go.Proofs.Ytcblhfjgdkbinaa.Re
