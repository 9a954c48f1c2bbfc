/- The walks of layer 15's leaf functions: what each call of package average and of its reference comes to, under the bounds on its arguments that each theorem tells. -/
import Derived.Test.YtejikplmmmjjpaaRows
import Derived.Test.YtejikplmmmjjpaaMem
import Derived.Test.YtejikplmmmjjpaaShelf
import Derived.Test.YtejikplmmmjjpaaAvgM
import Derived.IntWalk
import Derived.WalkKit
import Derived.Deep.QuietTactic
import Derived.BigQuiet
import Derived.StillTailTactics
import Derived.Lib.Hide
import Derived.Outline
namespace Go.Proofs.Ytejikplmmmjjpaa.Avg
open Go.RowKit Go.Proofs.Ytejikplmmmjjpaa.Mem Go.Proofs.Ytejikplmmmjjpaa.AvgM
set_option linter.unusedVariables false

def AvT : Nat := 58
def Av (w : World) (g : Nat) (s v c : Int) : Prop := Blk w g 58 #[.int .i64 s, .int .i64 v, .int .i64 c]
def Rv (w : World) (g : Nat) (s v c : Int) : Prop := Blk w g 34 #[.int .i64 s, .int .i64 v, .int .i64 c]

theorem new_ok (s : Int) (w : World) (h0 : 0 ≤ s) (h1 : s ≤ 30) :
    Calls Try.prog 11 #[.int .i64 s] w fun e w' => e = .returned (.tuple #[.pointer (some ⟨w.heap.size, 0, none⟩), .int .i64 0]) ∧ w' = w.alloc (.cells #[.int .i64 s, .int .i64 0, .int .i64 0] 58) := by
  have a1 : ¬ s < 0 := by omega
  have a2 : ¬ 30 < s := by omega
  go_enter Try.func11, Try.ntmps11
  go_wp2
  go_ret2
  exact ⟨rfl, rfl⟩
theorem new_bad (s : Int) (w : World) (h : s < 0 ∨ 30 < s) :
    Calls Try.prog 11 #[.int .i64 s] w fun e w' => e = .returned (.tuple #[.pointer none, .int .i64 2]) ∧ w = w' := by
  rcases h with h | h
  · go_enter Try.func11, Try.ntmps11
    go_wp2
    go_ret2
    exact ⟨rfl, rfl⟩
  · have a1 : ¬ s < 0 := by omega
    go_enter Try.func11, Try.ntmps11
    go_wp2
    go_ret2
    exact ⟨rfl, rfl⟩
theorem rnew_ok (s : Int) (w : World) (h0 : 0 ≤ s) (h1 : s ≤ 30) :
    Calls Try.prog 12 #[.int .i64 s] w fun e w' => e = .returned (.tuple #[.pointer (some ⟨w.heap.size, 0, none⟩), .int .i64 0]) ∧ w' = w.alloc (.cells #[.int .i64 s, .int .i64 0, .int .i64 0] 34) := by
  have a1 : ¬ s < 0 := by omega
  have a2 : ¬ 30 < s := by omega
  go_enter Try.func12, Try.ntmps12
  go_wp2
  go_ret2
  exact ⟨rfl, rfl⟩
theorem rnew_bad (s : Int) (w : World) (h : s < 0 ∨ 30 < s) :
    Calls Try.prog 12 #[.int .i64 s] w fun e w' => e = .returned (.tuple #[.pointer none, .int .i64 2]) ∧ w = w' := by
  rcases h with h | h
  · go_enter Try.func12, Try.ntmps12
    go_wp2
    go_ret2
    exact ⟨rfl, rfl⟩
  · have a1 : ¬ s < 0 := by omega
    go_enter Try.func12, Try.ntmps12
    go_wp2
    go_ret2
    exact ⟨rfl, rfl⟩
theorem value_any {w : World} {g : Nat} {s v c : Int} (h : Av w g s v c) :
    Calls Try.prog 15 #[.pointer (some ⟨g, 0, none⟩)] w fun e w' => e = .returned (.int .i64 v) ∧ w = w' := by
  have c1 : w.cell? ⟨g, 1, none⟩ = some (.int .i64 v) := Blk.cell h 1
  clear h
  go_enter Try.func15, Try.ntmps15
  go_wp2
  go_ret
  exact ⟨rfl, rfl⟩
theorem value_nil (w : World) :
    Calls Try.prog 15 #[.pointer none] w fun e w' => e = .returned (.int .i64 0) ∧ w = w' := by
  go_enter Try.func15, Try.ntmps15
  go_wp2
  go_ret
  exact ⟨rfl, rfl⟩
theorem count_any {w : World} {g : Nat} {s v c : Int} (h : Av w g s v c) :
    Calls Try.prog 16 #[.pointer (some ⟨g, 0, none⟩)] w fun e w' => e = .returned (.int .i64 c) ∧ w = w' := by
  have c1 : w.cell? ⟨g, 2, none⟩ = some (.int .i64 c) := Blk.cell h 2
  clear h
  go_enter Try.func16, Try.ntmps16
  go_wp2
  go_ret
  exact ⟨rfl, rfl⟩
theorem count_nil (w : World) :
    Calls Try.prog 16 #[.pointer none] w fun e w' => e = .returned (.int .i64 0) ∧ w = w' := by
  go_enter Try.func16, Try.ntmps16
  go_wp2
  go_ret
  exact ⟨rfl, rfl⟩
theorem ret_i64 {a b : Int} (h : a = b) : Ending.returned (.int .i64 a) = .returned (.int .i64 b) := by rw [h]
theorem down_any (a b : Int) (w : World) (h0 : 1 ≤ b) (h1 : b ≤ 4611686018427387904) (h2 : -4611686018427387904 ≤ a) (h3 : a ≤ 4611686018427387904) :
    Calls Try.prog 29 #[.int .i64 a, .int .i64 b] w fun e w' => e = .returned (.int .i64 (a / b)) ∧ w = w' := by
  have hq : -4611686018427387904 ≤ a.tdiv b ∧ a.tdiv b ≤ 4611686018427387904 := by
    have := Int.natAbs_tdiv_le_natAbs a b
    omega
  obtain ⟨hq1, hq2⟩ := hq
  by_cases hr : a.tmod b < 0
  · have HE := Lib.hid (tdiv_neg (by omega) hr)
    go_enter Try.func29, Try.ntmps29
    go_wp2
    go_ret
    exact ⟨ret_i64 HE.out, rfl⟩
  · have HE := Lib.hid (tdiv_nonneg (a := a) (b := b) (by omega) (by omega))
    go_enter Try.func29, Try.ntmps29
    go_wp2
    go_ret
    exact ⟨ret_i64 HE.out, rfl⟩
theorem log_any (n : Int) (w : World) (h0 : 1 ≤ n) (h1 : n ≤ 9223372036854775807) :
    Calls Try.prog 30 #[.int .i64 n] w fun e w' => e = .returned (.int .i64 (lg n)) ∧ w = w' := by
  have hlg : lg n ≤ 62 := lg_bound h0 (by omega)
  go_enter Try.func30, Try.ntmps30
  go_wp2
  go_loop [0, 3] (fun v k => ∃ (m : Int) (j : Nat), 1 ≤ m ∧ m ≤ 9223372036854775807 ∧ lg n = j + lg m ∧ v = .int .i64 m ∧ k = .int .i64 j) (fun v _ => (intOf v).toNat)
  case atStart => exact ⟨n, 0, h0, h1, by omega, rfl, rfl⟩
  case round =>
    obtain ⟨m, j, hm0, hm1, hj, rfl, rfl⟩ := hrel
    have HJ := Lib.hid hj
    clear hj
    by_cases h2 : 1 < m
    · have HH := Lib.hid (lg_half (n := m) (by omega))
      have hj2 : j ≤ 62 := by have := HJ.out; omega
      go_wp2
      go_round
      case rel => exact ⟨m / 2, j + 1, by omega, by omega, by have := HJ.out; have := HH.out; omega, rfl, by go_num⟩
      case measure => simp [intOf]; omega
    · have e1 : m = 1 := by omega
      have HJ2 := Lib.hid (show j = lg n by have := HJ.out; rw [e1, lg_one] at this; omega)
      clear e1
      go_wp2
      go_ret
      exact ⟨ret_i64 (by rw [HJ2.out]), rfl⟩
end Go.Proofs.Ytejikplmmmjjpaa.Avg
