/- The statement HeapPlaysSaid: for every input the law answers true, and each argument reads behind the call as it read before. No condition. (The frame is turned from the kit's own skeleton.) -/
import Derived.Test.YtienomdennbkpaaRows
import Derived.WalkKit
import Derived.Below
import Derived.ProofKit
import Derived.OpenShut
import Derived.ShutString
import Derived.ChangeOld
import Derived.Test.YtienomdennbkpaaIb
import Derived.Test.YtienomdennbkpaaOpH
import Derived.Test.YtienomdennbkpaaRdr
namespace Go.Proofs.Ytienomdennbkpaa.heapPlays
open Go.ChangeShapes Go.WideShapes Go.ChangeAt Go.RowKit
open Go.ChangeMaps (open_string shut_string)
set_option linter.unusedVariables false

theorem own : ownKnob Try.prog.godebug = none := by kernel_rfl
theorem laidOut : laidOutB Try.prog = true := by kernel_rfl
theorem o5 : Rdr.Opens Try.prog 5 (Rdr.int .u8) := Rdr.opens_int Try.underlying5 (by kernel_rfl)
theorem o3 : Rdr.Opens Try.prog 3 (Rdr.int .i64) := Rdr.opens_int Try.underlying3 (by kernel_rfl)
theorem o2 : Rdr.Opens Try.prog 2 (Rdr.int .i64) := Rdr.opens_int Try.underlying2 (by kernel_rfl)
theorem o44 : Rdr.Opens Try.prog 44 (Rdr.seq (Rdr.int .u8) (Rdr.seq (Rdr.int .i64) (Rdr.seq (Rdr.int .i64) Rdr.unit))) := Rdr.opens_struct Try.underlying44 (by kernel_rfl) (.cons rfl o5 (.cons rfl o3 (.cons rfl o2 ((.nil _)))))
theorem o41 : Rdr.Opens Try.prog 41 (Rdr.slice (Rdr.seq (Rdr.int .u8) (Rdr.seq (Rdr.int .i64) (Rdr.seq (Rdr.int .i64) Rdr.unit)))) := Rdr.opens_slice Try.underlying41 (by kernel_rfl) o44

theorem walk (w : World) (a0 : Int) (w0 : (Lit.int .i64 a0).wf = true) (a1 : Option Addr) (len1 cap1 : Nat) (x1) (r1 : (Rdr.slice (Rdr.seq (Rdr.int .u8) (Rdr.seq (Rdr.int .i64) (Rdr.seq (Rdr.int .i64) Rdr.unit)))).rel w [.slice a1 len1 cap1] x1) :
    Calls Try.prog 6 #[.int .i64 a0, .slice a1 len1 cap1] w fun e w' => e = .returned (.bool true) ∧ Below w.heap.size w w' := by
  obtain ⟨h1, h2, _, h4⟩ := OpH.ops_of r1
  exact He.heapPlays_any a0 a1 len1 cap1 _ h2.symm h1 h4

set_option maxRecDepth 100000 in
theorem lifted (os : Os) (started : os.Started) (H : Type) (enc : TypeId × Value → H) :
    ReturnsInHanded {} Try.checked os 6 .any (Rows.heapPlaysSpec.pre6 enc Try.prog Try.f6 Rows.heapPlaysRow.domain false) (Rows.heapPlaysSpec.post enc Try.prog Try.f6 false true false false) := by
  refine returnsInHanded_of_change (C := Try.checked) own started (by kernel_rfl) Try.func6
    (ChangeSpec.witness6 (enc := enc) (C := Try.checked) false ⟨#[], #[.int .i64 0, .slice none 0 0], []⟩ 8 (by kernel_rfl) (by kernel_rfl) (by kernel_rfl) (by kernel_rfl)) ?_
  intro W base args ds gs before hval0 hW hcnd _
  have hval : ∀ (j : Nat) t v, Try.f6.params[j]? = some t → args[j]? = some v → Value.okWide Try.prog W .any base t v := hval0
  have hW' := hW
  obtain ⟨p, q, hA0, hV, rfl, hfz, hnd⟩ := hW
  have hA : DataW.TrodAll enc Try.prog W 0 (fun _ => true) true Try.f6.params.toList args.toList ds p := hA0
  rw [Try.params6] at hA hval
  obtain ⟨v0, vs0, d0, ds0, p0, q0, hargs, rfl, rfl, h0, r0'⟩ := trodAll_cons hA
  obtain ⟨v1, vs1, d1, ds1, p1, q1, rfl, rfl, rfl, h1, r1'⟩ := trodAll_cons r0'
  obtain ⟨rfl, rfl, rfl⟩ := trodAll_nil r1'
  obtain rfl : args = #[v0, v1] := by cases args; simp_all
  obtain ⟨rfl, rfl⟩ := trodVars_none hV
  obtain ⟨a0, rfl, rfl, rfl, w0⟩ := open_int Try.underlying3 (hval 0 3 v0 rfl rfl) h0
  obtain ⟨a1, len1, cap1, rfl⟩ := okWide_slice Try.underlying41 (hval 1 41 v1 rfl rfl)
  have k1 := h1
  have lt1 : ∀ x ∈ p1, x.block < W.heap.size := by obtain ⟨m, hm⟩ := k1; exact DataW.trod_lt m _ _ _ hm
  obtain ⟨x1, r1⟩ := Rdr.Opens.arg o41 k1
  have r1 : (Rdr.slice (Rdr.seq (Rdr.int .u8) (Rdr.seq (Rdr.int .i64) (Rdr.seq (Rdr.int .i64) Rdr.unit)))).rel W [.slice a1 len1 cap1] x1 := r1
  clear hA0 hval0
  refine (walk W a0 w0 a1 len1 cap1 x1 r1).mono fun e W' ⟨he, bel⟩ => ?_
  subst he
  exact ⟨_, rfl, _, _, _, [], _, [], hW', trodAll_mk1 (shut_bool Try.underlying4 _), (trodAll_cons_mk (shut_int Try.underlying3 w0) (trodAll_cons_mk (Below.trod laidOut (by kernel_rfl) (of_decide_eq_true (by kernel_rfl)) k1 bel lt1) trodAll_mk0)), rfl, bel.frame _, fun h => by cases h⟩

theorem over : Rows.heapPlaysRow.holds Try.pinned (OpenSpec.ofChange Rows.heapPlaysSpec) :=
  OpenClaim.holds_of_wide 6 Try.f6 rfl rfl rfl rfl rfl rfl rfl ⟨rfl, rfl, rfl, rfl, rfl⟩ rfl rfl rfl rfl rfl (by kernel_rfl) Try.func6 (by kernel_rfl)
    (of_decide_eq_true (by kernel_rfl)) (by unfold Func.isWrapper; first | (rw [if_pos (by decide +kernel)]; kernel_rfl) | (rw [if_neg (by decide +kernel)]; exact ⟨rfl, rfl⟩))
    (fun os started H enc _ => lifted os started H enc)

theorem proved : Rows.HeapPlaysSaid := over
#print axioms proved
end Go.Proofs.Ytienomdennbkpaa.heapPlays
