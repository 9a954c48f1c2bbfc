/- The statement CnfNormalUptoSaid: for every input of bulk at most 1048576 the law answers true, and each argument reads behind the call as it read before. (The frame is turned from the kit's own skeleton.) -/
import Derived.Test.YtbgfijnadfeleaaRows
import Derived.WalkKit
import Derived.Below
import Derived.ProofKit
import Derived.OpenShut
import Derived.ShutString
import Derived.ChangeOld
import Derived.Test.YtbgfijnadfeleaaLg
import Derived.Test.YtbgfijnadfeleaaRdF
namespace Go.Proofs.Ytbgfijnadfeleaa.cnfNormal
open Go.ChangeShapes Go.WideShapes Go.ChangeAt Go.RowKit
open Go.ChangeMaps (open_string shut_string)
set_option linter.unusedVariables false

theorem own : ownKnob Try.prog.godebug = none := by kernel_rfl
theorem laidOut : laidOutB Try.prog = true := by kernel_rfl
theorem o27 : Rdr.Opens Try.prog 27 (Rdr.int .i32) := Rdr.opens_int Try.underlying27 (by kernel_rfl)
theorem o23 : Rdr.Opens Try.prog 23 (Rdr.slice (Rdr.int .i32)) := Rdr.opens_slice Try.underlying23 (by kernel_rfl) o27
theorem o4 : Rdr.Opens Try.prog 4 Rdr.bool := Rdr.opens_bool Try.underlying4 (by kernel_rfl)
theorem o25 : Rdr.Opens Try.prog 25 (Rdr.slice Rdr.bool) := Rdr.opens_slice Try.underlying25 (by kernel_rfl) o4

theorem walk (w : World) (a0 : Option Addr) (len0 cap0 : Nat) (x0) (r0 : (Rdr.slice (Rdr.int .i32)).rel w [.slice a0 len0 cap0] x0) (a1 : Option Addr) (len1 cap1 : Nat) (x1) (r1 : (Rdr.slice Rdr.bool).rel w [.slice a1 len1 cap1] x1) :
    Calls Try.prog 5 #[.slice a0 len0 cap0, .slice a1 len1 cap1] w fun e w' => e = .returned (.bool true) ∧ Below w.heap.size w w' := by
  obtain ⟨h0, _⟩ := RdC.cl_of r0
  obtain ⟨h1, _⟩ := RdC.md_of r1
  exact La.normal_any (Nat.le_refl _) ⟨a0, len0, cap0, _⟩ h0 a1 len1 cap1 _ h1

set_option maxRecDepth 100000 in
theorem lifted (os : Os) (started : os.Started) (H : Type) (enc : TypeId × Value → H) (F : Stop.Interp) :
    ReturnsInHanded {} Try.checked os 5 .any ((Rows.OpenSpec.upto Rows.cnfNormalSpec).pre6 enc Try.prog Try.f5 Rows.cnfNormalUptoRow.domain false) (((Rows.OpenSpec.upto Rows.cnfNormalSpec).at F).post enc Try.prog Try.f5 false true false false) := by
  refine returnsInHanded_of_cond (C := Try.checked) (s := Rows.OpenSpec.upto Rows.cnfNormalSpec) (k := Rows.uptoSmall) rfl own started (by kernel_rfl) Try.func5
    (OpenSpec.witness (enc := enc) (C := Try.checked) (s := Rows.OpenSpec.upto Rows.cnfNormalSpec) (k := Rows.uptoSmall) rfl false ⟨#[], #[.slice none 0 0, .slice none 0 0], []⟩ 8 (by kernel_rfl) (by kernel_rfl) (by kernel_rfl)
      (x := ([.nil, .nil], [], [])) (by kernel_rfl) rfl (by kernel_rfl)) ?_
  intro W base args ds gs before hval0 hW hcnd hk _
  have hval : ∀ (j : Nat) t v, Try.f5.params[j]? = some t → args[j]? = some v → Value.okWide Try.prog W .any base t v := hval0
  have hW' := hW
  obtain ⟨p, q, hA0, hV, rfl, hfz, hnd⟩ := hW
  have hA : DataW.TrodAll enc Try.prog W 0 (fun _ => true) true Try.f5.params.toList args.toList ds p := hA0
  rw [Try.params5] at hA hval
  obtain ⟨v0, vs0, d0, ds0, p0, q0, hargs, rfl, rfl, h0, r0'⟩ := trodAll_cons hA
  obtain ⟨v1, vs1, d1, ds1, p1, q1, rfl, rfl, rfl, h1, r1'⟩ := trodAll_cons r0'
  obtain ⟨rfl, rfl, rfl⟩ := trodAll_nil r1'
  obtain rfl : args = #[v0, v1] := by cases args; simp_all
  obtain ⟨rfl, rfl⟩ := trodVars_none hV
  obtain ⟨a0, len0, cap0, rfl⟩ := okWide_slice Try.underlying23 (hval 0 23 v0 rfl rfl)
  have k0 := h0
  have lt0 : ∀ x ∈ p0, x.block < W.heap.size := by obtain ⟨m, hm⟩ := k0; exact DataW.trod_lt m _ _ _ hm
  obtain ⟨x0, r0⟩ := Rdr.Opens.arg o23 k0
  have r0 : (Rdr.slice (Rdr.int .i32)).rel W [.slice a0 len0 cap0] x0 := r0
  obtain ⟨a1, len1, cap1, rfl⟩ := okWide_slice Try.underlying25 (hval 1 25 v1 rfl rfl)
  have k1 := h1
  have lt1 : ∀ x ∈ p1, x.block < W.heap.size := by obtain ⟨m, hm⟩ := k1; exact DataW.trod_lt m _ _ _ hm
  obtain ⟨x1, r1⟩ := Rdr.Opens.arg o25 k1
  have r1 : (Rdr.slice Rdr.bool).rel W [.slice a1 len1 cap1] x1 := r1
  clear hA0 hval0
  refine (walk W a0 len0 cap0 x0 r0 a1 len1 cap1 x1 r1).mono fun e W' ⟨he, bel⟩ => ?_
  subst he
  exact ⟨_, rfl, _, _, _, [], _, [], hW', trodAll_mk1 (shut_bool Try.underlying4 _), (trodAll_cons_mk (Below.trod laidOut (by kernel_rfl) (of_decide_eq_true (by kernel_rfl)) k0 bel lt0) (trodAll_cons_mk (Below.trod laidOut (by kernel_rfl) (of_decide_eq_true (by kernel_rfl)) k1 bel lt1) trodAll_mk0)), rfl, bel.frame _, fun h => by cases h⟩

theorem over : Rows.cnfNormalUptoRow.holds Try.pinned (Rows.OpenSpec.upto Rows.cnfNormalSpec) :=
  OpenClaim.holds_of_cond 5 Try.f5 rfl rfl rfl rfl rfl rfl rfl ⟨rfl, rfl, rfl, rfl, rfl⟩ rfl rfl rfl rfl rfl (by kernel_rfl) Try.func5 (by kernel_rfl)
    (of_decide_eq_true (by kernel_rfl)) (by unfold Func.isWrapper; first | (rw [if_pos (by decide +kernel)]; kernel_rfl) | (rw [if_neg (by decide +kernel)]; exact ⟨rfl, rfl⟩))
    (fun os started H enc _ F => lifted os started H enc F)

theorem proved : Rows.CnfNormalUptoSaid := over
#print axioms proved
end Go.Proofs.Ytbgfijnadfeleaa.cnfNormal
