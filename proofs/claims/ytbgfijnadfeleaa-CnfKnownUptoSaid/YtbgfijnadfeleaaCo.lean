/- cmp.Compare, cmp.Or and cnf.order at any numbers: what they answer, and that they leave all else as it was. No condition. -/
import Derived.Test.YtbgfijnadfeleaaCl
import Derived.Lib.Small
import Derived.Sort.Grow
namespace Go.Proofs.Ytbgfijnadfeleaa.Co
open Go.RowKit Go.Proofs.Ytbgfijnadfeleaa.Mem Go.Proofs.Ytbgfijnadfeleaa.Sl Go.Shelf
open Go.Proofs.Ytbgfijnadfeleaa.FnL (Pred enc_at below_then)
open Go.Lib (compareInt)
set_option linter.unusedVariables false

theorem isNaN_lit (x : Int) (w : World) : Calls Try.prog 67 #[.int .i32 x] w fun e w' => e = .returned (.bool false) ∧ w = w' := by
  go_enter Try.func67, Try.ntmps67
  go_wp2
  go_ret
  exact ⟨by simp, rfl⟩
theorem isNaN_int (x : Int) (w : World) : Calls Try.prog 66 #[.int .i64 x] w fun e w' => e = .returned (.bool false) ∧ w = w' := by
  go_enter Try.func66, Try.ntmps66
  go_wp2
  go_ret
  exact ⟨by simp, rfl⟩
theorem compare_lit (x y : Int) (w : World) : Calls Try.prog 51 #[.int .i32 x, .int .i32 y] w fun e w' => e = .returned (.int .i64 (compareInt x y)) ∧ w = w' := by
  have h1 := Lib.hid (isNaN_lit x w)
  have h2 := Lib.hid (isNaN_lit y w)
  have HE := Lib.hid (show compareInt x y = if x < y then -1 else if x > y then 1 else 0 from rfl)
  by_cases p : x < y
  · have HR := Lib.hid (show compareInt x y = -1 by rw [HE.out, if_pos p])
    go_enter Try.func51, Try.ntmps51
    go_wp2_with fail
    refine h1.out.mono ?_
    rintro e w1 ⟨rfl, rfl⟩
    go_wp2_with fail
    refine h2.out.mono ?_
    rintro e w1 ⟨rfl, rfl⟩
    go_wp2
    go_ret
    exact ⟨by rw [HR.out]; rfl, rfl⟩
  · by_cases q : y < x
    · have HR := Lib.hid (show compareInt x y = 1 by rw [HE.out, if_neg p, if_pos q])
      go_enter Try.func51, Try.ntmps51
      go_wp2_with fail
      refine h1.out.mono ?_
      rintro e w1 ⟨rfl, rfl⟩
      go_wp2_with fail
      refine h2.out.mono ?_
      rintro e w1 ⟨rfl, rfl⟩
      go_wp2
      go_ret
      exact ⟨by rw [HR.out]; rfl, rfl⟩
    · have HR := Lib.hid (show compareInt x y = 0 by rw [HE.out, if_neg p, if_neg q])
      go_enter Try.func51, Try.ntmps51
      go_wp2_with fail
      refine h1.out.mono ?_
      rintro e w1 ⟨rfl, rfl⟩
      go_wp2_with fail
      refine h2.out.mono ?_
      rintro e w1 ⟨rfl, rfl⟩
      go_wp2
      go_ret
      exact ⟨by rw [HR.out]; rfl, rfl⟩
theorem compare_int (x y : Int) (w : World) : Calls Try.prog 50 #[.int .i64 x, .int .i64 y] w fun e w' => e = .returned (.int .i64 (compareInt x y)) ∧ w = w' := by
  have h1 := Lib.hid (isNaN_int x w)
  have h2 := Lib.hid (isNaN_int y w)
  have HE := Lib.hid (show compareInt x y = if x < y then -1 else if x > y then 1 else 0 from rfl)
  by_cases p : x < y
  · have HR := Lib.hid (show compareInt x y = -1 by rw [HE.out, if_pos p])
    go_enter Try.func50, Try.ntmps50
    go_wp2_with fail
    refine h1.out.mono ?_
    rintro e w1 ⟨rfl, rfl⟩
    go_wp2_with fail
    refine h2.out.mono ?_
    rintro e w1 ⟨rfl, rfl⟩
    go_wp2
    go_ret
    exact ⟨by rw [HR.out]; rfl, rfl⟩
  · by_cases q : y < x
    · have HR := Lib.hid (show compareInt x y = 1 by rw [HE.out, if_neg p, if_pos q])
      go_enter Try.func50, Try.ntmps50
      go_wp2_with fail
      refine h1.out.mono ?_
      rintro e w1 ⟨rfl, rfl⟩
      go_wp2_with fail
      refine h2.out.mono ?_
      rintro e w1 ⟨rfl, rfl⟩
      go_wp2
      go_ret
      exact ⟨by rw [HR.out]; rfl, rfl⟩
    · have HR := Lib.hid (show compareInt x y = 0 by rw [HE.out, if_neg p, if_neg q])
      go_enter Try.func50, Try.ntmps50
      go_wp2_with fail
      refine h1.out.mono ?_
      rintro e w1 ⟨rfl, rfl⟩
      go_wp2_with fail
      refine h2.out.mono ?_
      rintro e w1 ⟨rfl, rfl⟩
      go_wp2
      go_ret
      exact ⟨by rw [HR.out]; rfl, rfl⟩
def orI (a b : Int) : Int := if a = 0 then b else a
theorem or_any (a b : Int) (g : Nat) (w : World) (c0 : w.cell? ⟨g, 0, none⟩ = some (.int .i64 a)) (c1 : w.cell? ⟨g, 1, none⟩ = some (.int .i64 b)) :
    Calls Try.prog 49 #[.slice (some ⟨g, 0, none⟩) 2 2] w fun e w' => e = .returned (.int .i64 (orI a b)) ∧ w = w' := by
  by_cases p : a = 0
  · by_cases q : b = 0
    · subst p; subst q
      go_enter Try.func49, Try.ntmps49
      go_wp2_with fail
      refine wp_loop_rounds 3 ?_
      rw [rounds_succ]
      go_wp2_with fail
      rw [rounds_succ]
      go_wp2_with fail
      rw [rounds_succ]
      go_wp2_with fail
      go_ret
      exact ⟨rfl, rfl⟩
    · have HR := Lib.hid (show orI a b = b by unfold orI; rw [if_pos p])
      subst p
      go_enter Try.func49, Try.ntmps49
      go_wp2_with fail
      refine wp_loop_rounds 2 ?_
      rw [rounds_succ]
      go_wp2_with fail
      rw [rounds_succ]
      go_wp2_with fail
      go_ret
      exact ⟨by rw [HR.out]; rfl, rfl⟩
  · have HR := Lib.hid (show orI a b = a by unfold orI; rw [if_neg p])
    go_enter Try.func49, Try.ntmps49
    go_wp2_with fail
    refine wp_loop_rounds 2 ?_
    rw [rounds_succ]
    go_wp2_with fail
    go_ret
    exact ⟨by rw [HR.out]; rfl, rfl⟩
def varW (x : Int) : Int := if x < 0 then IntKind.i64.wrap (-(IntKind.i64.wrap x)) else IntKind.i64.wrap x
theorem var_all (x : Int) (w : World) :
    Calls Try.prog 29 #[.int .i32 x] w fun e w' => e = .returned (.int .i64 (varW x)) ∧ w = w' := by
  have HE := Lib.hid (show varW x = if x < 0 then IntKind.i64.wrap (-(IntKind.i64.wrap x)) else IntKind.i64.wrap x from rfl)
  obtain ⟨y, e1⟩ : ∃ y, IntKind.i64.wrap x = y := ⟨_, rfl⟩
  obtain ⟨z, e2⟩ : ∃ z, IntKind.i64.wrap (-y) = z := ⟨_, rfl⟩
  by_cases hx : x < 0
  · have HF := Lib.hid (show varW x = z by rw [HE.out, if_pos hx, e1, e2])
    go_enter Try.func29, Try.ntmps29
    go_wp2
    go_ret
    exact ⟨by rw [HF.out]; first | rfl | simp [wrap64, *] | simp_all, rfl⟩
  · have HF := Lib.hid (show varW x = y by rw [HE.out, if_neg hx, e1])
    go_enter Try.func29, Try.ntmps29
    go_wp2
    go_ret
    exact ⟨by rw [HF.out]; first | rfl | simp [wrap64, *] | simp_all, rfl⟩
theorem Var_all (x : Int) (w : World) :
    Calls Try.prog 9 #[.int .i32 x] w fun e w' => e = .returned (.int .i64 (varW x)) ∧ w = w' := by
  have HC := Lib.hid (var_all x w)
  go_enter Try.func9, Try.ntmps9
  go_wp2_with fail
  refine HC.out.mono ?_
  rintro e w1 ⟨rfl, rfl⟩
  go_wp2
  go_ret
  exact ⟨rfl, rfl⟩
def cf (x y : Int) : Int := orI (compareInt (varW x) (varW y)) (compareInt x y)
theorem order_any (x y : Int) (w : World) :
    Calls Try.prog 36 #[.int .i32 x, .int .i32 y] w fun e w' => e = .returned (.int .i64 (cf x y)) ∧ ∃ o, w' = w.alloc o := by
  have h1 := Lib.hid (Var_all x w)
  have h2 := Lib.hid (Var_all y w)
  have h3 := Lib.hid (compare_int (varW x) (varW y) w)
  have h4 := Lib.hid (compare_lit x y w)
  have h5 := Lib.hid (or_any (compareInt (varW x) (varW y)) (compareInt x y))
  have HE := Lib.hid (show cf x y = orI (compareInt (varW x) (varW y)) (compareInt x y) from rfl)
  generalize cf x y = r at *
  generalize compareInt (varW x) (varW y) = a at *
  generalize varW x = vx at *
  generalize varW y = vy at *
  generalize compareInt x y = b at *
  go_enter Try.func36, Try.ntmps36
  go_wp2_with fail
  refine h1.out.mono ?_
  rintro e w1 ⟨rfl, rfl⟩
  go_wp2_with fail
  refine h2.out.mono ?_
  rintro e w1 ⟨rfl, rfl⟩
  go_wp2_with fail
  refine h3.out.mono ?_
  rintro e w1 ⟨rfl, rfl⟩
  go_wp2_with fail
  refine h4.out.mono ?_
  rintro e w1 ⟨rfl, rfl⟩
  go_wp2_with fail
  refine (h5.out w.heap.size _ (by simp) (by simp)).mono ?_
  rintro e w1 ⟨rfl, rfl⟩
  go_wp2
  go_ret
  exact ⟨by rw [HE.out]; rfl, _, rfl⟩
end Go.Proofs.Ytbgfijnadfeleaa.Co
