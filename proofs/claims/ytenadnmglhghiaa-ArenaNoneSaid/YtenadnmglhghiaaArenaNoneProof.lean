/- The statement ArenaNoneSaid: for every input the law answers true, and each argument reads behind the call as it read before. No condition. (The frame is turned from the kit's own skeleton.) -/
import Derived.Test.YtenadnmglhghiaaRows
import Derived.WalkKit
import Derived.Below
import Derived.ProofKit
import Derived.OpenShut
import Derived.ShutString
import Derived.ChangeOld
import Derived.Test.YtenadnmglhghiaaAo
namespace Go.Proofs.Ytenadnmglhghiaa.arenaNone
open Go.ChangeShapes Go.WideShapes Go.ChangeAt Go.RowKit
open Go.ChangeMaps (open_string shut_string)
set_option linter.unusedVariables false

theorem own : ownKnob Try.prog.godebug = none := by kernel_rfl
theorem laidOut : laidOutB Try.prog = true := by kernel_rfl
theorem o3 : Rdr.Opens Try.prog 3 (Rdr.int .i64) := Rdr.opens_int Try.underlying3 (by kernel_rfl)
theorem o2 : Rdr.Opens Try.prog 2 (Rdr.int .i64) := Rdr.opens_int Try.underlying2 (by kernel_rfl)
theorem o26 : Rdr.Opens Try.prog 26 (Rdr.int .i32) := Rdr.opens_int Try.underlying26 (by kernel_rfl)
theorem o25 : Rdr.Opens Try.prog 25 (Rdr.slice (Rdr.int .i32)) := Rdr.opens_slice Try.underlying25 (by kernel_rfl) o26
theorem o4 : Rdr.Opens Try.prog 4 Rdr.bool := Rdr.opens_bool Try.underlying4 (by kernel_rfl)
theorem o57 : Rdr.Opens Try.prog 57 (Rdr.seq (Rdr.int .i64) (Rdr.seq (Rdr.int .i64) (Rdr.seq (Rdr.slice (Rdr.int .i32)) (Rdr.seq Rdr.bool (Rdr.seq (Rdr.int .i64) (Rdr.seq Rdr.bool (Rdr.seq (Rdr.int .i64) (Rdr.seq (Rdr.int .i64) Rdr.unit)))))))) := Rdr.opens_struct Try.underlying57 (by kernel_rfl) (.cons rfl o3 (.cons rfl o2 (.cons rfl o25 (.cons rfl o4 (.cons rfl o3 (.cons rfl o4 (.cons rfl o3 (.cons rfl o3 ((.nil _))))))))))

theorem walk (w : World) (a0 : Array Value) (x0) (r0 : (Rdr.seq (Rdr.int .i64) (Rdr.seq (Rdr.int .i64) (Rdr.seq (Rdr.slice (Rdr.int .i32)) (Rdr.seq Rdr.bool (Rdr.seq (Rdr.int .i64) (Rdr.seq Rdr.bool (Rdr.seq (Rdr.int .i64) (Rdr.seq (Rdr.int .i64) Rdr.unit)))))))).rel w a0.toList x0) :
    Calls Try.prog 5 #[.agg a0] w fun e w' => e = .returned (.bool true) ∧ Below w.heap.size w w' := by
  obtain ⟨e0, s0⟩ := Ar.st_rel r0
  have e0 : a0 = (Ar.stOf x0).row.toArray := by
    have := congrArg List.toArray e0
    simpa using this
  subst e0
  exact Ar.none_st _ s0

set_option maxRecDepth 100000 in
theorem lifted (os : Os) (started : os.Started) (H : Type) (enc : TypeId × Value → H) :
    ReturnsInHanded {} Try.checked os 5 .any (Rows.arenaNoneSpec.pre6 enc Try.prog Try.f5 Rows.arenaNoneRow.domain false) (Rows.arenaNoneSpec.post enc Try.prog Try.f5 false true false false) := by
  refine returnsInHanded_of_change (C := Try.checked) own started (by kernel_rfl) Try.func5
    (ChangeSpec.witness6 (enc := enc) (C := Try.checked) false ⟨#[], #[.agg #[.int .i64 0, .int .i64 0, .slice none 0 0, .bool false, .int .i64 0, .bool false, .int .i64 0, .int .i64 0]], []⟩ 8 (by kernel_rfl) (by kernel_rfl) (by kernel_rfl) (by kernel_rfl)) ?_
  intro W base args ds gs before hval0 hW hcnd _
  have hval : ∀ (j : Nat) t v, Try.f5.params[j]? = some t → args[j]? = some v → Value.okWide Try.prog W .any base t v := hval0
  have hW' := hW
  obtain ⟨p, q, hA0, hV, rfl, hfz, hnd⟩ := hW
  have hA : DataW.TrodAll enc Try.prog W 0 (fun _ => true) true Try.f5.params.toList args.toList ds p := hA0
  rw [Try.params5] at hA hval
  obtain ⟨v0, vs0, d0, ds0, p0, q0, hargs, rfl, rfl, h0, r0'⟩ := trodAll_cons hA
  obtain ⟨rfl, rfl, rfl⟩ := trodAll_nil r0'
  obtain rfl : args = #[v0] := by cases args; simp_all
  obtain ⟨rfl, rfl⟩ := trodVars_none hV
  obtain ⟨a0, rfl, _⟩ := okWide_struct Try.underlying57 (hval 0 57 v0 rfl rfl)
  have k0 := h0
  have lt0 : ∀ x ∈ p0, x.block < W.heap.size := by obtain ⟨m, hm⟩ := k0; exact DataW.trod_lt m _ _ _ hm
  obtain ⟨x0, r0⟩ := Rdr.Opens.arg o57 k0
  have r0 : (Rdr.seq (Rdr.int .i64) (Rdr.seq (Rdr.int .i64) (Rdr.seq (Rdr.slice (Rdr.int .i32)) (Rdr.seq Rdr.bool (Rdr.seq (Rdr.int .i64) (Rdr.seq Rdr.bool (Rdr.seq (Rdr.int .i64) (Rdr.seq (Rdr.int .i64) Rdr.unit)))))))).rel W a0.toList x0 := r0
  clear hA0 hval0
  refine (walk W a0 x0 r0).mono fun e W' ⟨he, bel⟩ => ?_
  subst he
  exact ⟨_, rfl, _, _, _, [], _, [], hW', trodAll_mk1 (shut_bool Try.underlying4 _), (trodAll_cons_mk (Below.trod laidOut (by kernel_rfl) (of_decide_eq_true (by kernel_rfl)) k0 bel lt0) trodAll_mk0), rfl, bel.frame _, fun h => by cases h⟩

theorem over : Rows.arenaNoneRow.holds Try.pinned (OpenSpec.ofChange Rows.arenaNoneSpec) :=
  OpenClaim.holds_of_wide 5 Try.f5 rfl rfl rfl rfl rfl rfl rfl ⟨rfl, rfl, rfl, rfl, rfl⟩ rfl rfl rfl rfl rfl (by kernel_rfl) Try.func5 (by kernel_rfl)
    (of_decide_eq_true (by kernel_rfl)) (by unfold Func.isWrapper; first | (rw [if_pos (by decide +kernel)]; kernel_rfl) | (rw [if_neg (by decide +kernel)]; exact ⟨rfl, rfl⟩))
    (fun os started H enc _ => lifted os started H enc)

theorem proved : Rows.ArenaNoneSaid := over
#print axioms proved
end Go.Proofs.Ytenadnmglhghiaa.arenaNone
