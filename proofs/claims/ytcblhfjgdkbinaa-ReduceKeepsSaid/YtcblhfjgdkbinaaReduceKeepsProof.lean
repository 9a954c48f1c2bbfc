/- The statement ReduceKeepsSaid: for every input the law answers true, and each argument reads behind the call as it read before. No condition. (The frame is turned from the kit's own skeleton.) -/
import Derived.Test.YtcblhfjgdkbinaaRows
import Derived.WalkKit
import Derived.Below
import Derived.ProofKit
import Derived.OpenShut
import Derived.ShutString
import Derived.ChangeOld
import Derived.Test.YtcblhfjgdkbinaaJr
import Derived.Test.YtcblhfjgdkbinaaRdr
namespace Go.Proofs.Ytcblhfjgdkbinaa.reduceKeeps
open Go.ChangeShapes Go.WideShapes Go.ChangeAt Go.RowKit
open Go.ChangeMaps (open_string shut_string)
set_option linter.unusedVariables false

theorem own : ownKnob Try.prog.godebug = none := by kernel_rfl
theorem laidOut : laidOutB Try.prog = true := by kernel_rfl
theorem o2 : Rdr.Opens Try.prog 2 (Rdr.int .i64) := Rdr.opens_int Try.underlying2 (by kernel_rfl)
theorem o3 : Rdr.Opens Try.prog 3 (Rdr.int .i64) := Rdr.opens_int Try.underlying3 (by kernel_rfl)
theorem o4 : Rdr.Opens Try.prog 4 Rdr.bool := Rdr.opens_bool Try.underlying4 (by kernel_rfl)
theorem o40 : Rdr.Opens Try.prog 40 (Rdr.seq (Rdr.int .i64) (Rdr.seq (Rdr.int .i64) (Rdr.seq (Rdr.int .i64) (Rdr.seq (Rdr.int .i64) (Rdr.seq Rdr.bool Rdr.unit))))) := Rdr.opens_struct Try.underlying40 (by kernel_rfl) (.cons rfl o2 (.cons rfl o3 (.cons rfl o3 (.cons rfl o3 (.cons rfl o4 ((.nil _)))))))
theorem o22 : Rdr.Opens Try.prog 22 (Rdr.slice (Rdr.seq (Rdr.int .i64) (Rdr.seq (Rdr.int .i64) (Rdr.seq (Rdr.int .i64) (Rdr.seq (Rdr.int .i64) (Rdr.seq Rdr.bool Rdr.unit)))))) := Rdr.opens_slice Try.underlying22 (by kernel_rfl) o40

theorem walk (w : World) (a0 : Option Addr) (len0 cap0 : Nat) (x0) (r0 : (Rdr.slice (Rdr.seq (Rdr.int .i64) (Rdr.seq (Rdr.int .i64) (Rdr.seq (Rdr.int .i64) (Rdr.seq (Rdr.int .i64) (Rdr.seq Rdr.bool Rdr.unit)))))).rel w [.slice a0 len0 cap0] x0) (a1 : Int) (w1 : (Lit.int .i64 a1).wf = true) (a2 : Int) (w2 : (Lit.int .i64 a2).wf = true) (a3 : Int) (w3 : (Lit.int .i64 a3).wf = true) :
    Calls Try.prog 3 #[.slice a0 len0 cap0, .int .i64 a1, .int .i64 a2, .int .i64 a3] w fun e w' => e = .returned (.bool true) ∧ Below w.heap.size w w' := by
  obtain ⟨h1, h2⟩ := Re.items_of r0
  have b2 : -9223372036854775808 ≤ a2 ∧ a2 ≤ 9223372036854775807 := by
    simp only [Lit.wf, Bool.and_eq_true, decide_eq_true_eq] at w2
    exact w2
  have b3 : -9223372036854775808 ≤ a3 ∧ a3 ≤ 9223372036854775807 := by
    simp only [Lit.wf, Bool.and_eq_true, decide_eq_true_eq] at w3
    exact w3
  exact Re.keeps_any a0 len0 cap0 _ h2 h1 a1 a2 a3 b2 b3

set_option maxRecDepth 100000 in
theorem lifted (os : Os) (started : os.Started) (H : Type) (enc : TypeId × Value → H) :
    ReturnsInHanded {} Try.checked os 3 .any (Rows.reduceKeepsSpec.pre6 enc Try.prog Try.f3 Rows.reduceKeepsRow.domain false) (Rows.reduceKeepsSpec.post enc Try.prog Try.f3 false true false false) := by
  refine returnsInHanded_of_change (C := Try.checked) own started (by kernel_rfl) Try.func3
    (ChangeSpec.witness6 (enc := enc) (C := Try.checked) false ⟨#[], #[.slice none 0 0, .int .i64 0, .int .i64 0, .int .i64 0], []⟩ 8 (by kernel_rfl) (by kernel_rfl) (by kernel_rfl) (by kernel_rfl)) ?_
  intro W base args ds gs before hval0 hW hcnd _
  have hval : ∀ (j : Nat) t v, Try.f3.params[j]? = some t → args[j]? = some v → Value.okWide Try.prog W .any base t v := hval0
  have hW' := hW
  obtain ⟨p, q, hA0, hV, rfl, hfz, hnd⟩ := hW
  have hA : DataW.TrodAll enc Try.prog W 0 (fun _ => true) true Try.f3.params.toList args.toList ds p := hA0
  rw [Try.params3] at hA hval
  obtain ⟨v0, vs0, d0, ds0, p0, q0, hargs, rfl, rfl, h0, r0'⟩ := trodAll_cons hA
  obtain ⟨v1, vs1, d1, ds1, p1, q1, rfl, rfl, rfl, h1, r1'⟩ := trodAll_cons r0'
  obtain ⟨v2, vs2, d2, ds2, p2, q2, rfl, rfl, rfl, h2, r2'⟩ := trodAll_cons r1'
  obtain ⟨v3, vs3, d3, ds3, p3, q3, rfl, rfl, rfl, h3, r3'⟩ := trodAll_cons r2'
  obtain ⟨rfl, rfl, rfl⟩ := trodAll_nil r3'
  obtain rfl : args = #[v0, v1, v2, v3] := by cases args; simp_all
  obtain ⟨rfl, rfl⟩ := trodVars_none hV
  obtain ⟨a0, len0, cap0, rfl⟩ := okWide_slice Try.underlying22 (hval 0 22 v0 rfl rfl)
  have k0 := h0
  have lt0 : ∀ x ∈ p0, x.block < W.heap.size := by obtain ⟨m, hm⟩ := k0; exact DataW.trod_lt m _ _ _ hm
  obtain ⟨x0, r0⟩ := Rdr.Opens.arg o22 k0
  have r0 : (Rdr.slice (Rdr.seq (Rdr.int .i64) (Rdr.seq (Rdr.int .i64) (Rdr.seq (Rdr.int .i64) (Rdr.seq (Rdr.int .i64) (Rdr.seq Rdr.bool Rdr.unit)))))).rel W [.slice a0 len0 cap0] x0 := r0
  obtain ⟨a1, rfl, rfl, rfl, w1⟩ := open_int Try.underlying3 (hval 1 3 v1 rfl rfl) h1
  obtain ⟨a2, rfl, rfl, rfl, w2⟩ := open_int Try.underlying3 (hval 2 3 v2 rfl rfl) h2
  obtain ⟨a3, rfl, rfl, rfl, w3⟩ := open_int Try.underlying3 (hval 3 3 v3 rfl rfl) h3
  clear hA0 hval0
  refine (walk W a0 len0 cap0 x0 r0 a1 w1 a2 w2 a3 w3).mono fun e W' ⟨he, bel⟩ => ?_
  subst he
  exact ⟨_, rfl, _, _, _, [], _, [], hW', trodAll_mk1 (shut_bool Try.underlying4 _), (trodAll_cons_mk (Below.trod laidOut (by kernel_rfl) (of_decide_eq_true (by kernel_rfl)) k0 bel lt0) (trodAll_cons_mk (shut_int Try.underlying3 w1) (trodAll_cons_mk (shut_int Try.underlying3 w2) (trodAll_cons_mk (shut_int Try.underlying3 w3) trodAll_mk0)))), rfl, bel.frame _, fun h => by cases h⟩

theorem over : Rows.reduceKeepsRow.holds Try.pinned (OpenSpec.ofChange Rows.reduceKeepsSpec) :=
  OpenClaim.holds_of_wide 3 Try.f3 rfl rfl rfl rfl rfl rfl rfl ⟨rfl, rfl, rfl, rfl, rfl⟩ rfl rfl rfl rfl rfl (by kernel_rfl) Try.func3 (by kernel_rfl)
    (of_decide_eq_true (by kernel_rfl)) (by unfold Func.isWrapper; first | (rw [if_pos (by decide +kernel)]; kernel_rfl) | (rw [if_neg (by decide +kernel)]; exact ⟨rfl, rfl⟩))
    (fun os started H enc _ => lifted os started H enc)

theorem proved : Rows.ReduceKeepsSaid := over
#print axioms proved
end Go.Proofs.Ytcblhfjgdkbinaa.reduceKeeps
