/- Words put together out of parts: or, and. Plain theorems, no program. -/
import Derived.Laws.BitsAll
import Derived.Laws.BitsAllLaws
import Derived.Laws.BitsLemmas
import Derived.IntWalk
namespace Go.Proofs.Ytenadnmglhghiaa.Ar
set_option linter.unusedVariables false

theorem w32 (n : Int) (h0 : 0 ≤ n) (h1 : n < 2 ^ 32) : IntKind.u32.wrap n = n := by rw [IntKind.wrap_u32]; omega
theorem w64 (n : Int) (h0 : 0 ≤ n) (h1 : n < 2 ^ 63) : IntKind.i64.wrap n = n := by rw [IntKind.wrap_i64]; omega
theorem or32 (i : Nat) (x y : Int) (hx0 : 0 ≤ x) (hx : x % 2 ^ i = 0) (hx1 : x < 4294967296) (hy0 : 0 ≤ y) (hy : y < 2 ^ i) (hy1 : y < 4294967296) : bits .or .u32 x y = x + y :=
  bits_join .u32 32 (by decide) w32 i x y hx0 hx (by omega) hy0 hy (by omega)
theorem or_id {y : Int} (h0 : 0 ≤ y) (h1 : y < 4611686018427387904) : bits .or .i64 (y % 4294967296) (y / 4294967296 * 4294967296) = y := by
  have hc : bits .or .i64 (y % 4294967296) (y / 4294967296 * 4294967296) = bits .or .i64 (y / 4294967296 * 4294967296) (y % 4294967296) := by
    simp only [bits, BitVec.or_comm]
  rw [hc, bits_join .i64 63 (by decide) w64 32 _ _ (by omega) (by omega) (by omega) (by omega) (by omega) (by omega)]
  omega
theorem and32 (i : Nat) (x : Int) (hi : i ≤ 32) (h0 : 0 ≤ x) (h1 : x < 4294967296) : bits .and .u32 x (2 ^ i - 1) = x % 2 ^ i := bits_mask .u32 32 (by decide) w32 i hi x h0 (by omega)
theorem and2 (x : Int) (h0 : 0 ≤ x) (h1 : x < 4294967296) : bits .and .u32 x 2 = x / 2 % 2 * 2 := by
  obtain ⟨a, rfl⟩ := Int.eq_ofNat_of_zero_le h0
  rw [show (2 : Int) = ((2 : Nat) : Int) from rfl, u32_and_nat a 2 (by omega) (by decide), show (2 : Nat) = 2 ^ 1 from rfl, nat_bit]
  simp
theorem and3 (x : Int) (h0 : 0 ≤ x) (h1 : x < 4294967296) : bits .and .u32 x 3 = x % 4 := and32 2 x (by decide) h0 h1
theorem and16 (x : Int) (h0 : 0 ≤ x) (h1 : x < 4294967296) : bits .and .u32 x 65535 = x % 65536 := and32 16 x (by decide) h0 h1
end Go.Proofs.Ytenadnmglhghiaa.Ar
