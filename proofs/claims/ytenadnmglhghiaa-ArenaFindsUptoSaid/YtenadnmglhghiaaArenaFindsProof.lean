/- The statement ArenaFindsUptoSaid: for every input of bulk at most 1048576 the law answers true, and each argument reads behind the call as it read before. (The frame is turned from the kit's own skeleton.) -/
import Derived.Test.YtenadnmglhghiaaRows
import Derived.WalkKit
import Derived.Below
import Derived.ProofKit
import Derived.OpenShut
import Derived.ShutString
import Derived.ChangeOld
import Derived.Test.YtenadnmglhghiaaAt
namespace Go.Proofs.Ytenadnmglhghiaa.arenaFinds
open Go.ChangeShapes Go.WideShapes Go.ChangeAt Go.RowKit
open Go.ChangeMaps (open_string shut_string)
set_option linter.unusedVariables false

theorem own : ownKnob Try.prog.godebug = none := by kernel_rfl
theorem laidOut : laidOutB Try.prog = true := by kernel_rfl
theorem o26 : RdU.Opens Try.prog 26 (Rdr.int .i32) := RdU.opens_int Try.underlying26 (by kernel_rfl)
theorem o25 : RdU.Opens Try.prog 25 (RdU.sliceU (Rdr.int .i32)) := RdU.opens_slice Try.underlying25 (by kernel_rfl) o26
theorem o22 : RdU.Opens Try.prog 22 (RdU.sliceU (RdU.sliceU (Rdr.int .i32))) := RdU.opens_slice Try.underlying22 (by kernel_rfl) o25
theorem o4 : RdU.Opens Try.prog 4 Rdr.bool := RdU.opens_bool Try.underlying4 (by kernel_rfl)
theorem o23 : RdU.Opens Try.prog 23 (RdU.sliceU Rdr.bool) := RdU.opens_slice Try.underlying23 (by kernel_rfl) o4

theorem walk (w : World) (a0 : Option Addr) (len0 cap0 : Nat) (x0) (r0 : (RdU.sliceU (RdU.sliceU (Rdr.int .i32))).rel w [.slice a0 len0 cap0] x0) (a1 : Option Addr) (len1 cap1 : Nat) (x1) (r1 : (RdU.sliceU Rdr.bool).rel w [.slice a1 len1 cap1] x1) (a2 : Int) (w2 : (Lit.int .i64 a2).wf = true) :
    Calls Try.prog 3 #[.slice a0 len0 cap0, .slice a1 len1 cap1, .int .i64 a2] w fun e w' => e = .returned (.bool true) ∧ Below w.heap.size w w' := by
  have h0 : -9223372036854775808 ≤ a2 ∧ a2 ≤ 9223372036854775807 := by
    simp only [Lit.wf, Bool.and_eq_true, decide_eq_true_eq] at w2
    exact w2
  obtain ⟨h1, h2, h3⟩ := Ar.bools_rel r1
  exact Ar.finds_walk a0 len0 cap0 _ (Ar.clsU_of r0) a1 len1 cap1 _ h1 h2 h3 a2 h0

set_option maxRecDepth 100000 in
theorem lifted (os : Os) (started : os.Started) (H : Type) (enc : TypeId × Value → H) (F : Stop.Interp) :
    ReturnsInHanded {} Try.checked os 3 .any ((Rows.OpenSpec.upto Rows.arenaFindsSpec).pre6 enc Try.prog Try.f3 Rows.arenaFindsUptoRow.domain false) (((Rows.OpenSpec.upto Rows.arenaFindsSpec).at F).post enc Try.prog Try.f3 false true false false) := by
  refine returnsInHanded_of_cond (C := Try.checked) (s := Rows.OpenSpec.upto Rows.arenaFindsSpec) (k := Rows.uptoSmall) rfl own started (by kernel_rfl) Try.func3
    (OpenSpec.witness (enc := enc) (C := Try.checked) (s := Rows.OpenSpec.upto Rows.arenaFindsSpec) (k := Rows.uptoSmall) rfl false ⟨#[], #[.slice none 0 0, .slice none 0 0, .int .i64 0], []⟩ 8 (by kernel_rfl) (by kernel_rfl) (by kernel_rfl)
      (x := ([.nil, .nil, .lit (.int .i64 0)], [], [])) (by kernel_rfl) rfl (by kernel_rfl)) ?_
  intro W base args ds gs before hval0 hW hcnd hk _
  have hval : ∀ (j : Nat) t v, Try.f3.params[j]? = some t → args[j]? = some v → Value.okWide Try.prog W .any base t v := hval0
  have hW' := hW
  obtain ⟨p, q, hA0, hV, rfl, hfz, hnd⟩ := hW
  have hA : DataW.TrodAll enc Try.prog W 0 (fun _ => true) true Try.f3.params.toList args.toList ds p := hA0
  rw [Try.params3] at hA hval
  obtain ⟨v0, vs0, d0, ds0, p0, q0, hargs, rfl, rfl, h0, r0'⟩ := trodAll_cons hA
  obtain ⟨v1, vs1, d1, ds1, p1, q1, rfl, rfl, rfl, h1, r1'⟩ := trodAll_cons r0'
  obtain ⟨v2, vs2, d2, ds2, p2, q2, rfl, rfl, rfl, h2, r2'⟩ := trodAll_cons r1'
  obtain ⟨rfl, rfl, rfl⟩ := trodAll_nil r2'
  obtain rfl : args = #[v0, v1, v2] := by cases args; simp_all
  obtain ⟨rfl, rfl⟩ := trodVars_none hV
  have hkb := RdU.bound hk
  obtain ⟨a0, len0, cap0, rfl⟩ := okWide_slice Try.underlying22 (hval 0 22 v0 rfl rfl)
  have k0 := h0
  have lt0 : ∀ x ∈ p0, x.block < W.heap.size := by obtain ⟨m, hm⟩ := k0; exact DataW.trod_lt m _ _ _ hm
  obtain ⟨x0, r0⟩ := RdU.Opens.arg o22 k0 (Nat.le_trans (RdU.part_le (by simp)) hkb)
  have r0 : (RdU.sliceU (RdU.sliceU (Rdr.int .i32))).rel W [.slice a0 len0 cap0] x0 := r0
  obtain ⟨a1, len1, cap1, rfl⟩ := okWide_slice Try.underlying23 (hval 1 23 v1 rfl rfl)
  have k1 := h1
  have lt1 : ∀ x ∈ p1, x.block < W.heap.size := by obtain ⟨m, hm⟩ := k1; exact DataW.trod_lt m _ _ _ hm
  obtain ⟨x1, r1⟩ := RdU.Opens.arg o23 k1 (Nat.le_trans (RdU.part_le (by simp)) hkb)
  have r1 : (RdU.sliceU Rdr.bool).rel W [.slice a1 len1 cap1] x1 := r1
  obtain ⟨a2, rfl, rfl, rfl, w2⟩ := open_int Try.underlying3 (hval 2 3 v2 rfl rfl) h2
  clear hA0 hval0
  refine (walk W a0 len0 cap0 x0 r0 a1 len1 cap1 x1 r1 a2 w2).mono fun e W' ⟨he, bel⟩ => ?_
  subst he
  exact ⟨_, rfl, _, _, _, [], _, [], hW', trodAll_mk1 (shut_bool Try.underlying4 _), (trodAll_cons_mk (Below.trod laidOut (by kernel_rfl) (of_decide_eq_true (by kernel_rfl)) k0 bel lt0) (trodAll_cons_mk (Below.trod laidOut (by kernel_rfl) (of_decide_eq_true (by kernel_rfl)) k1 bel lt1) (trodAll_cons_mk (shut_int Try.underlying3 w2) trodAll_mk0))), rfl, bel.frame _, fun h => by cases h⟩

theorem over : Rows.arenaFindsUptoRow.holds Try.pinned (Rows.OpenSpec.upto Rows.arenaFindsSpec) :=
  OpenClaim.holds_of_cond 3 Try.f3 rfl rfl rfl rfl rfl rfl rfl ⟨rfl, rfl, rfl, rfl, rfl⟩ rfl rfl rfl rfl rfl (by kernel_rfl) Try.func3 (by kernel_rfl)
    (of_decide_eq_true (by kernel_rfl)) (by unfold Func.isWrapper; first | (rw [if_pos (by decide +kernel)]; kernel_rfl) | (rw [if_neg (by decide +kernel)]; exact ⟨rfl, rfl⟩))
    (fun os started H enc _ F => lifted os started H enc F)

theorem proved : Rows.ArenaFindsUptoSaid := over
#print axioms proved
end Go.Proofs.Ytenadnmglhghiaa.arenaFinds
