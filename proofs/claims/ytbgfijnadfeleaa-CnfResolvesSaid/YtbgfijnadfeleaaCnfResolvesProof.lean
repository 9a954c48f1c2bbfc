/- The statement CnfResolvesSaid: for every input the law answers true, and each argument reads behind the call as it read before. No condition. (The frame is turned from the kit's own skeleton.) -/
import Derived.Test.YtbgfijnadfeleaaRows
import Derived.WalkKit
import Derived.Below
import Derived.ProofKit
import Derived.OpenShut
import Derived.ShutString
import Derived.ChangeOld
import Derived.Test.YtbgfijnadfeleaaLf
import Derived.Test.YtbgfijnadfeleaaRdF
namespace Go.Proofs.Ytbgfijnadfeleaa.cnfResolves
open Go.ChangeShapes Go.WideShapes Go.ChangeAt Go.RowKit
open Go.ChangeMaps (open_string shut_string)
set_option linter.unusedVariables false

theorem own : ownKnob Try.prog.godebug = none := by kernel_rfl
theorem laidOut : laidOutB Try.prog = true := by kernel_rfl
theorem o27 : Rdr.Opens Try.prog 27 (Rdr.int .i32) := Rdr.opens_int Try.underlying27 (by kernel_rfl)
theorem o23 : Rdr.Opens Try.prog 23 (Rdr.slice (Rdr.int .i32)) := Rdr.opens_slice Try.underlying23 (by kernel_rfl) o27
theorem o4 : Rdr.Opens Try.prog 4 Rdr.bool := Rdr.opens_bool Try.underlying4 (by kernel_rfl)
theorem o25 : Rdr.Opens Try.prog 25 (Rdr.slice Rdr.bool) := Rdr.opens_slice Try.underlying25 (by kernel_rfl) o4

theorem walk (w : World) (a0 : Option Addr) (len0 cap0 : Nat) (x0) (r0 : (Rdr.slice (Rdr.int .i32)).rel w [.slice a0 len0 cap0] x0) (a1 : Option Addr) (len1 cap1 : Nat) (x1) (r1 : (Rdr.slice (Rdr.int .i32)).rel w [.slice a1 len1 cap1] x1) (a2 : Int) (w2 : (Lit.int .i64 a2).wf = true) (a3 : Option Addr) (len3 cap3 : Nat) (x3) (r3 : (Rdr.slice Rdr.bool).rel w [.slice a3 len3 cap3] x3) :
    Calls Try.prog 6 #[.slice a0 len0 cap0, .slice a1 len1 cap1, .int .i64 a2, .slice a3 len3 cap3] w fun e w' => e = .returned (.bool true) ∧ Below w.heap.size w w' := by
  obtain ⟨h0, _⟩ := RdC.cl_of r0
  obtain ⟨h1, _⟩ := RdC.cl_of r1
  obtain ⟨h3, _⟩ := RdC.md_of r3
  exact La.resolves_any (Nat.le_refl _) ⟨a0, len0, cap0, _⟩ h0 ⟨a1, len1, cap1, _⟩ h1 a2 a3 len3 cap3 _ h3

set_option maxRecDepth 100000 in
theorem lifted (os : Os) (started : os.Started) (H : Type) (enc : TypeId × Value → H) :
    ReturnsInHanded {} Try.checked os 6 .any (Rows.cnfResolvesSpec.pre6 enc Try.prog Try.f6 Rows.cnfResolvesRow.domain false) (Rows.cnfResolvesSpec.post enc Try.prog Try.f6 false true false false) := by
  refine returnsInHanded_of_change (C := Try.checked) own started (by kernel_rfl) Try.func6
    (ChangeSpec.witness6 (enc := enc) (C := Try.checked) false ⟨#[], #[.slice none 0 0, .slice none 0 0, .int .i64 0, .slice none 0 0], []⟩ 8 (by kernel_rfl) (by kernel_rfl) (by kernel_rfl) (by kernel_rfl)) ?_
  intro W base args ds gs before hval0 hW hcnd _
  have hval : ∀ (j : Nat) t v, Try.f6.params[j]? = some t → args[j]? = some v → Value.okWide Try.prog W .any base t v := hval0
  have hW' := hW
  obtain ⟨p, q, hA0, hV, rfl, hfz, hnd⟩ := hW
  have hA : DataW.TrodAll enc Try.prog W 0 (fun _ => true) true Try.f6.params.toList args.toList ds p := hA0
  rw [Try.params6] at hA hval
  obtain ⟨v0, vs0, d0, ds0, p0, q0, hargs, rfl, rfl, h0, r0'⟩ := trodAll_cons hA
  obtain ⟨v1, vs1, d1, ds1, p1, q1, rfl, rfl, rfl, h1, r1'⟩ := trodAll_cons r0'
  obtain ⟨v2, vs2, d2, ds2, p2, q2, rfl, rfl, rfl, h2, r2'⟩ := trodAll_cons r1'
  obtain ⟨v3, vs3, d3, ds3, p3, q3, rfl, rfl, rfl, h3, r3'⟩ := trodAll_cons r2'
  obtain ⟨rfl, rfl, rfl⟩ := trodAll_nil r3'
  obtain rfl : args = #[v0, v1, v2, v3] := by cases args; simp_all
  obtain ⟨rfl, rfl⟩ := trodVars_none hV
  obtain ⟨a0, len0, cap0, rfl⟩ := okWide_slice Try.underlying23 (hval 0 23 v0 rfl rfl)
  have k0 := h0
  have lt0 : ∀ x ∈ p0, x.block < W.heap.size := by obtain ⟨m, hm⟩ := k0; exact DataW.trod_lt m _ _ _ hm
  obtain ⟨x0, r0⟩ := Rdr.Opens.arg o23 k0
  have r0 : (Rdr.slice (Rdr.int .i32)).rel W [.slice a0 len0 cap0] x0 := r0
  obtain ⟨a1, len1, cap1, rfl⟩ := okWide_slice Try.underlying23 (hval 1 23 v1 rfl rfl)
  have k1 := h1
  have lt1 : ∀ x ∈ p1, x.block < W.heap.size := by obtain ⟨m, hm⟩ := k1; exact DataW.trod_lt m _ _ _ hm
  obtain ⟨x1, r1⟩ := Rdr.Opens.arg o23 k1
  have r1 : (Rdr.slice (Rdr.int .i32)).rel W [.slice a1 len1 cap1] x1 := r1
  obtain ⟨a2, rfl, rfl, rfl, w2⟩ := open_int Try.underlying3 (hval 2 3 v2 rfl rfl) h2
  obtain ⟨a3, len3, cap3, rfl⟩ := okWide_slice Try.underlying25 (hval 3 25 v3 rfl rfl)
  have k3 := h3
  have lt3 : ∀ x ∈ p3, x.block < W.heap.size := by obtain ⟨m, hm⟩ := k3; exact DataW.trod_lt m _ _ _ hm
  obtain ⟨x3, r3⟩ := Rdr.Opens.arg o25 k3
  have r3 : (Rdr.slice Rdr.bool).rel W [.slice a3 len3 cap3] x3 := r3
  clear hA0 hval0
  refine (walk W a0 len0 cap0 x0 r0 a1 len1 cap1 x1 r1 a2 w2 a3 len3 cap3 x3 r3).mono fun e W' ⟨he, bel⟩ => ?_
  subst he
  exact ⟨_, rfl, _, _, _, [], _, [], hW', trodAll_mk1 (shut_bool Try.underlying4 _), (trodAll_cons_mk (Below.trod laidOut (by kernel_rfl) (of_decide_eq_true (by kernel_rfl)) k0 bel lt0) (trodAll_cons_mk (Below.trod laidOut (by kernel_rfl) (of_decide_eq_true (by kernel_rfl)) k1 bel lt1) (trodAll_cons_mk (shut_int Try.underlying3 w2) (trodAll_cons_mk (Below.trod laidOut (by kernel_rfl) (of_decide_eq_true (by kernel_rfl)) k3 bel lt3) trodAll_mk0)))), rfl, bel.frame _, fun h => by cases h⟩

theorem over : Rows.cnfResolvesRow.holds Try.pinned (OpenSpec.ofChange Rows.cnfResolvesSpec) :=
  OpenClaim.holds_of_wide 6 Try.f6 rfl rfl rfl rfl rfl rfl rfl ⟨rfl, rfl, rfl, rfl, rfl⟩ rfl rfl rfl rfl rfl (by kernel_rfl) Try.func6 (by kernel_rfl)
    (of_decide_eq_true (by kernel_rfl)) (by unfold Func.isWrapper; first | (rw [if_pos (by decide +kernel)]; kernel_rfl) | (rw [if_neg (by decide +kernel)]; exact ⟨rfl, rfl⟩))
    (fun os started H enc _ => lifted os started H enc)

theorem proved : Rows.CnfResolvesSaid := over
#print axioms proved
end Go.Proofs.Ytbgfijnadfeleaa.cnfResolves
