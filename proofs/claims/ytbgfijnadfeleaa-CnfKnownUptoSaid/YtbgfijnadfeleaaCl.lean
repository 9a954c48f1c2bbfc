/- Literals, clauses and models in memory; cnf.Var, lit.is, cnf.Value and the document's Var, True, Value: what they answer. No condition but the memory. -/
import Derived.Test.YtbgfijnadfeleaaFnL
import Derived.Laws.EntriesVeiled
namespace Go.Proofs.Ytbgfijnadfeleaa.Cl
open Go.RowKit Go.Proofs.Ytbgfijnadfeleaa.Mem Go.Proofs.Ytbgfijnadfeleaa.Sl Go.Shelf
open Go.Proofs.Ytbgfijnadfeleaa.FnL (Pred enc_at below_then)
set_option linter.unusedVariables false

structure CV where
  A : Option Addr
  n : Nat
  c : Nat
  l : List Int
def CV.v (x : CV) : Value := .slice x.A x.n x.c
/-- A clause that can be read below B. -/
structure ClOk (B : Nat) (w : World) (x : CV) : Prop where
  ln : x.n = x.l.length
  mx : x.n ≤ 9223372036854775807
  rd : RdB B w x.A (x.l.map (Value.int .i32))
  lb : ∀ y, y ∈ x.l → -2147483648 ≤ y ∧ y ≤ 2147483647
theorem ClOk.below {B : Nat} {w w' : World} {x : CV} (h : ClOk B w x) (hb : Below B w w') : ClOk B w' x := ⟨h.ln, h.mx, h.rd.below hb, h.lb⟩
theorem RdB.up {B B' : Nat} {w : World} {a : Option Addr} {vs : List Value} (h : RdB B w a vs) (hB : B ≤ B') : RdB B' w a vs := fun hp => by
  obtain ⟨b, off, rfl, hx, hc⟩ := h hp
  exact ⟨b, off, rfl, by omega, hc⟩
theorem ClOk.up {B B' : Nat} {w : World} {x : CV} (h : ClOk B w x) (hB : B ≤ B') : ClOk B' w x := ⟨h.ln, h.mx, RdB.up h.rd hB, h.lb⟩
/-- A model that can be read: its slice's value. -/
structure MdOk (B : Nat) (w : World) (a : Option Addr) (n : Nat) (m : List Bool) : Prop where
  ln : n = m.length
  mx : n ≤ 9223372036854775807
  rd : RdB B w a (m.map Value.bool)
theorem MdOk.below {B : Nat} {w w' : World} {a : Option Addr} {n : Nat} {m : List Bool} (h : MdOk B w a n m) (hb : Below B w w') : MdOk B w' a n m := ⟨h.ln, h.mx, h.rd.below hb⟩

theorem MdOk.up {B B' : Nat} {w : World} {a : Option Addr} {n : Nat} {m : List Bool} (h : MdOk B w a n m) (hB : B ≤ B') : MdOk B' w a n m := ⟨h.ln, h.mx, RdB.up h.rd hB⟩

def varI (x : Int) : Int := if x < 0 then -x else x
def isB (m : List Bool) (x : Int) : Bool := decide (1 ≤ varI x) && (decide (varI x ≤ m.length) && (m.getD ((varI x).toNat - 1) false == decide (0 < x)))
def valB (m : List Bool) (l : List Int) : Bool := l.any (isB m)
theorem varI_bd {x : Int} (h0 : -2147483648 ≤ x) (h1 : x ≤ 2147483647) : 0 ≤ varI x ∧ varI x ≤ 2147483648 := by
  unfold varI; split <;> omega

theorem var_any (x : Int) (h0 : -2147483648 ≤ x) (h1 : x ≤ 2147483647) (w : World) :
    Calls Try.prog 29 #[.int .i32 x] w fun e w' => e = .returned (.int .i64 (varI x)) ∧ w = w' := by
  have HE := Lib.hid (show varI x = if x < 0 then -x else x from rfl)
  have e1 : IntKind.i64.wrap x = x := IntWalk.i64_in _ (by omega)
  have e2 : IntKind.i64.wrap (-x) = -x := IntWalk.i64_in _ (by omega)
  by_cases hx : x < 0
  · have HF := Lib.hid (show varI x = -x by rw [HE.out, if_pos hx])
    go_enter Try.func29, Try.ntmps29
    go_wp2
    go_ret
    exact ⟨by rw [HF.out]; first | rfl | simp [wrap64, *], rfl⟩
  · have HF := Lib.hid (show varI x = x by rw [HE.out, if_neg hx])
    go_enter Try.func29, Try.ntmps29
    go_wp2
    go_ret
    exact ⟨by rw [HF.out]; first | rfl | simp [wrap64, *], rfl⟩
theorem Var_any (x : Int) (h0 : -2147483648 ≤ x) (h1 : x ≤ 2147483647) (w : World) :
    Calls Try.prog 9 #[.int .i32 x] w fun e w' => e = .returned (.int .i64 (varI x)) ∧ w = w' := by
  have HC := Lib.hid (var_any x h0 h1 w)
  go_enter Try.func9, Try.ntmps9
  go_wp2_with fail
  refine HC.out.mono ?_
  rintro e w1 ⟨rfl, rfl⟩
  go_wp2
  go_ret
  exact ⟨rfl, rfl⟩
theorem rVar_any (x : Int) (h0 : -2147483648 ≤ x) (h1 : x ≤ 2147483647) (w : World) :
    Calls Try.prog 10 #[.int .i32 x] w fun e w' => e = .returned (.int .i64 (varI x)) ∧ w = w' := by
  have HE := Lib.hid (show varI x = if x < 0 then -x else x from rfl)
  have e1 : IntKind.i64.wrap x = x := IntWalk.i64_in _ (by omega)
  have e2 : IntKind.i64.wrap (-x) = -x := IntWalk.i64_in _ (by omega)
  by_cases hx : x < 0
  · have HF := Lib.hid (show varI x = -x by rw [HE.out, if_pos hx])
    go_enter Try.func10, Try.ntmps10
    go_wp2
    go_ret
    exact ⟨by rw [HF.out]; first | rfl | simp [wrap64, *], rfl⟩
  · have HF := Lib.hid (show varI x = x by rw [HE.out, if_neg hx])
    go_enter Try.func10, Try.ntmps10
    go_wp2
    go_ret
    exact ⟨by rw [HF.out]; first | rfl | simp [wrap64, *], rfl⟩
/-- A model's cell at a literal's variable. -/
theorem md_at {B : Nat} {w : World} {a : Option Addr} {n : Nat} {m : List Bool} (h : MdOk B w a n m) {i : Nat} (hi : i < n) : ∃ b off, a = some ⟨b, off, none⟩ ∧ b < B ∧ w.cell? ⟨b, off + i, none⟩ = some (.bool (m.getD i false)) := by
  obtain ⟨b, off, rfl, hx, hc⟩ := h.rd (by rw [List.length_map, ← h.ln]; omega)
  exact ⟨b, off, rfl, hx, hc i _ (bools_at (by rw [← h.ln]; exact hi))⟩
theorem is_any {B : Nat} {a : Option Addr} {n c : Nat} {m : List Bool} {w : World} (hm : MdOk B w a n m) (x : Int) (h0 : -2147483648 ≤ x) (h1 : x ≤ 2147483647) :
    Calls Try.prog 30 #[.int .i32 x, .slice a n c] w fun e w' => e = .returned (.bool (isB m x)) ∧ w = w' := by
  have HC := Lib.hid (var_any x h0 h1 w)
  have HB := Lib.hid (show isB m x = (decide (1 ≤ varI x) && (decide (varI x ≤ n) && (m.getD ((varI x).toNat - 1) false == decide (0 < x)))) by rw [hm.ln]; rfl)
  have hv := varI_bd h0 h1
  have hb := hm.mx
  generalize varI x = v at *
  obtain ⟨hv0, hv1⟩ := hv
  by_cases p0 : v = 0
  · have HE := Lib.hid (show isB m x = false by rw [HB.out, decide_eq_false (show ¬ (1 ≤ v) by omega)]; rfl)
    subst p0
    clear hm
    go_enter Try.func30, Try.ntmps30
    go_wp2_with fail
    refine HC.out.mono ?_
    rintro e w1 ⟨rfl, rfl⟩
    go_wp2
    go_ret
    exact ⟨by rw [HE.out]; rfl, rfl⟩
  · have p1 : 0 < v := by omega
    clear p0
    by_cases p2 : v ≤ n
    · obtain ⟨b, off, rfl, hlt, hc⟩ := md_at hm (i := v.toNat - 1) (by omega)
      have HE := Lib.hid (show isB m x = (m.getD (v.toNat - 1) false == decide (0 < x)) by
        rw [HB.out, decide_eq_true (show 1 ≤ v by omega), decide_eq_true p2]; rfl)
      have e1 : IntKind.i64.wrap (v - 1) = v - 1 := IntWalk.i64_in _ (by omega)
      clear hm HB hlt
      generalize m.getD (v.toNat - 1) false = y at *
      go_enter Try.func30, Try.ntmps30
      go_wp2_with fail
      refine HC.out.mono ?_
      rintro e w1 ⟨rfl, rfl⟩
      go_wp2
      go_ret
      exact ⟨by rw [HE.out]; first | rfl | simp, rfl⟩
    · have HE := Lib.hid (show isB m x = false by rw [HB.out, decide_eq_false p2]; simp)
      clear hm
      go_enter Try.func30, Try.ntmps30
      go_wp2_with fail
      refine HC.out.mono ?_
      rintro e w1 ⟨rfl, rfl⟩
      go_wp2
      go_ret
      exact ⟨by rw [HE.out]; rfl, rfl⟩
theorem rTrue_any {B : Nat} {a : Option Addr} {n c : Nat} {m : List Bool} {w : World} (hm : MdOk B w a n m) (x : Int) (h0 : -2147483648 ≤ x) (h1 : x ≤ 2147483647) :
    Calls Try.prog 33 #[.int .i32 x, .slice a n c] w fun e w' => e = .returned (.bool (isB m x)) ∧ w = w' := by
  have HC := Lib.hid (rVar_any x h0 h1 w)
  have HB := Lib.hid (show isB m x = (decide (1 ≤ varI x) && (decide (varI x ≤ n) && (m.getD ((varI x).toNat - 1) false == decide (0 < x)))) by rw [hm.ln]; rfl)
  have hv := varI_bd h0 h1
  have hb := hm.mx
  generalize varI x = v at *
  obtain ⟨hv0, hv1⟩ := hv
  by_cases p0 : v = 0
  · have HE := Lib.hid (show isB m x = false by rw [HB.out, decide_eq_false (show ¬ (1 ≤ v) by omega)]; rfl)
    subst p0
    clear hm
    go_enter Try.func33, Try.ntmps33
    go_wp2_with fail
    refine HC.out.mono ?_
    rintro e w1 ⟨rfl, rfl⟩
    go_wp2
    go_ret
    exact ⟨by rw [HE.out]; rfl, rfl⟩
  · have p1 : 1 ≤ v := by omega
    clear p0
    by_cases p2 : v ≤ n
    · obtain ⟨b, off, rfl, hlt, hc⟩ := md_at hm (i := v.toNat - 1) (by omega)
      have HE := Lib.hid (show isB m x = (m.getD (v.toNat - 1) false == decide (0 < x)) by
        rw [HB.out, decide_eq_true (show 1 ≤ v by omega), decide_eq_true p2]; rfl)
      have e1 : IntKind.i64.wrap (v - 1) = v - 1 := IntWalk.i64_in _ (by omega)
      clear hm HB hlt
      generalize m.getD (v.toNat - 1) false = y at *
      go_enter Try.func33, Try.ntmps33
      go_wp2_with fail
      refine HC.out.mono ?_
      rintro e w1 ⟨rfl, rfl⟩
      go_wp2
      go_ret
      exact ⟨by rw [HE.out]; first | rfl | simp, rfl⟩
    · have HE := Lib.hid (show isB m x = false by rw [HB.out, decide_eq_false p2]; simp)
      clear hm
      go_enter Try.func33, Try.ntmps33
      go_wp2_with fail
      refine HC.out.mono ?_
      rintro e w1 ⟨rfl, rfl⟩
      go_wp2
      go_ret
      exact ⟨by rw [HE.out]; rfl, rfl⟩
end Go.Proofs.Ytbgfijnadfeleaa.Cl
