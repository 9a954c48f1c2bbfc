/- The chapter's example (works) and filled, walked out of the contracts of layer 15's functions; no condition but the ones each theorem tells. -/
import Derived.Test.YtejikplmmmjjpaaAvgA
import Derived.Test.YtejikplmmmjjpaaAvgB
import Derived.Test.YtejikplmmmjjpaaAvgL
namespace Go.Proofs.Ytejikplmmmjjpaa.Avg
open Go.RowKit Go.Proofs.Ytejikplmmmjjpaa.Mem Go.Proofs.Ytejikplmmmjjpaa.AvgM
set_option linter.unusedVariables false

theorem luby_ok (n : Nat) (w : World) (h0 : 1 ≤ n) (h1 : n ≤ 9223372036854775806) :
    Calls Try.prog 18 #[.int .i64 n] w fun e w' => e = .returned (.tuple #[.int .i64 (lub n : Int), .int .i64 0]) ∧ w = w' := by
  have e1 : IntKind.u64.wrap (n : Int) = n := IntWalk.u64_in _ (by omega)
  have h2 : ((n : Int) == 9223372036854775807) = false := by rw [beq_eq_false_iff_ne]; omega
  have h3 : ¬ (n : Int) < 1 := by omega
  go_enter Try.func18, Try.ntmps18
  go_wp2_with (go_at_call 31; refine (luby_any n _ h0 h1).mono ?_; rintro e w' ⟨rfl, rfl⟩)
  go_ret2
  exact ⟨rfl, rfl⟩
theorem luby_top (w : World) :
    Calls Try.prog 18 #[.int .i64 9223372036854775807] w fun e w' => e = .returned (.tuple #[.int .i64 4611686018427387904, .int .i64 0]) ∧ w = w' := by
  go_enter Try.func18, Try.ntmps18
  go_wp2
  go_ret2
  exact ⟨rfl, rfl⟩
theorem luby_bad (n : Int) (w : World) (h0 : n < 1) :
    Calls Try.prog 18 #[.int .i64 n] w fun e w' => e = .returned (.tuple #[.int .i64 0, .int .i64 2]) ∧ w = w' := by
  go_enter Try.func18, Try.ntmps18
  go_wp2
  go_ret2
  exact ⟨rfl, rfl⟩
theorem rluby_bad (n : Int) (w : World) (h0 : n < 1) :
    Calls Try.prog 19 #[.int .i64 n] w fun e w' => e = .returned (.tuple #[.int .i64 0, .int .i64 2]) ∧ w = w' := by
  go_enter Try.func19, Try.ntmps19
  go_wp2
  go_ret2
  exact ⟨rfl, rfl⟩

theorem av_new (w : World) (s : Int) : Av (w.alloc (.cells #[.int .i64 s, .int .i64 0, .int .i64 0] 58)) w.heap.size s 0 0 := Blk.new _ _ _
theorem rv_new (w : World) (s : Int) : Rv (w.alloc (.cells #[.int .i64 s, .int .i64 0, .int .i64 0] 34)) w.heap.size s 0 0 := Blk.new _ _ _
theorem ex1 : addv 2 0 0 8 = 34359738368 := by decide +kernel
theorem ex2 : addv 2 34359738368 1 0 = 17179869184 := by decide +kernel
theorem ex3 : lub 15 = 8 := by decide +kernel
set_option maxRecDepth 100000 in
theorem works_ok (w : World) : Calls Try.prog 10 #[] w fun e w' => e = .returned (.bool true) ∧ Below w.heap.size w w' := by
  go_enter Try.func10, Try.ntmps10
  go_wp2_with fail
  refine (new_ok 2 _ (by omega) (by omega)).mono ?_
  rintro e w1 ⟨rfl, hw1⟩
  have A0 := Lib.hid (hw1 ▸ av_new w 2 : Av w1 w.heap.size 2 0 0)
  have M0 := Lib.hid (hw1 ▸ (Mod.refl (fun i => w.heap.size ≤ i) w).alloc _ : Mod (fun i => w.heap.size ≤ i) w w1)
  clear hw1
  go_wp2_with fail
  refine (add_ok 8 A0.out (by omega) (by omega) (by omega) (by omega) (by omega) (by omega) (by omega) (by omega)).mono ?_
  rintro e w2 ⟨rfl, hm1, ha1⟩
  have A1 := Lib.hid (ex1 ▸ ha1)
  have M1 := Lib.hid (M0.out.trans hm1 (fun i _ h => by rw [h]; exact Nat.le_refl _))
  clear hm1 ha1 M0 A0
  go_wp2_with fail
  refine (value_any A1.out).mono ?_
  rintro e w' ⟨rfl, rfl⟩
  go_wp2_with fail
  refine (add_ok 0 A1.out (by omega) (by omega) (by omega) (by omega) (by omega) (by omega) (by omega) (by omega)).mono ?_
  rintro e w3 ⟨rfl, hm2, ha2⟩
  have A2 := Lib.hid (show Av w3 w.heap.size 2 17179869184 2 from ex2 ▸ ha2)
  have M2 := Lib.hid (M1.out.trans hm2 (fun i _ h => by rw [h]; exact Nat.le_refl _))
  clear hm2 ha2 M1 A1
  go_wp2_with fail
  refine (value_any A2.out).mono ?_
  rintro e w' ⟨rfl, rfl⟩
  go_wp2_with fail
  refine (count_any A2.out).mono ?_
  rintro e w' ⟨rfl, rfl⟩
  go_wp2_with fail
  refine (luby_ok 15 _ (by omega) (by omega)).mono ?_
  rintro e w' ⟨rfl, rfl⟩
  rw [ex3]
  go_wp2
  go_ret
  exact ⟨rfl, M2.out.below (fun _ _ h => h) (Nat.le_refl _)⟩
end Go.Proofs.Ytejikplmmmjjpaa.Avg
