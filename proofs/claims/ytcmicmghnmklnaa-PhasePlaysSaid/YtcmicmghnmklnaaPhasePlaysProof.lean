/- The statement PhasePlaysSaid: for every input the law answers true, and each argument reads behind the call as it read before. No condition. (The frame is turned from the kit's own skeleton.) -/
import Derived.Test.YtcmicmghnmklnaaRows
import Derived.WalkKit
import Derived.Below
import Derived.ProofKit
import Derived.OpenShut
import Derived.ShutString
import Derived.ChangeOld
import Derived.Test.YtcmicmghnmklnaaPhBC
namespace Go.Proofs.Ytcmicmghnmklnaa.phasePlays
open Go.ChangeShapes Go.WideShapes Go.ChangeAt Go.RowKit
open Go.ChangeMaps (open_string shut_string)
set_option linter.unusedVariables false

theorem own : ownKnob Try.prog.godebug = none := by kernel_rfl
theorem laidOut : laidOutB Try.prog = true := by kernel_rfl
theorem o5 : Rdr.Opens Try.prog 5 (Rdr.int .u8) := Rdr.opens_int Try.underlying5 (by kernel_rfl)
theorem o3 : Rdr.Opens Try.prog 3 (Rdr.int .i64) := Rdr.opens_int Try.underlying3 (by kernel_rfl)
theorem o35 : Rdr.Opens Try.prog 35 (Rdr.int .i32) := Rdr.opens_int Try.underlying35 (by kernel_rfl)
theorem o30 : Rdr.Opens Try.prog 30 (Rdr.slice (Rdr.int .i32)) := Rdr.opens_slice Try.underlying30 (by kernel_rfl) o35
theorem o34 : Rdr.Opens Try.prog 34 (Rdr.seq (Rdr.int .u8) (Rdr.seq (Rdr.int .i64) (Rdr.seq (Rdr.slice (Rdr.int .i32)) Rdr.unit))) := Rdr.opens_struct Try.underlying34 (by kernel_rfl) (.cons rfl o5 (.cons rfl o3 (.cons rfl o30 ((.nil _)))))
theorem o22 : Rdr.Opens Try.prog 22 (Rdr.slice (Rdr.seq (Rdr.int .u8) (Rdr.seq (Rdr.int .i64) (Rdr.seq (Rdr.slice (Rdr.int .i32)) Rdr.unit)))) := Rdr.opens_slice Try.underlying22 (by kernel_rfl) o34

theorem walk (w : World) (a0 : Int) (w0 : (Lit.int .i64 a0).wf = true) (a1 : Bool) (a2 : Int) (w2 : (Lit.int .u64 a2).wf = true) (a3 : Option Addr) (len3 cap3 : Nat) (x3) (r3 : (Rdr.slice (Rdr.seq (Rdr.int .u8) (Rdr.seq (Rdr.int .i64) (Rdr.seq (Rdr.slice (Rdr.int .i32)) Rdr.unit)))).rel w [.slice a3 len3 cap3] x3) :
    Calls Try.prog 6 #[.int .i64 a0, .bool a1, .int .u64 a2, .slice a3 len3 cap3] w fun e w' => e = .returned (.bool true) ∧ Below w.heap.size w w' := by
  simp only [Lit.wf, Bool.and_eq_true, decide_eq_true_eq] at w0 w2
  obtain ⟨h1, h2, h3⟩ := Ops.ops_of r3
  exact Ph.pplays_walk a0 a1 a2 a3 len3 cap3 _ w h2 h3 w0.1 w0.2 w2.1 w2.2 h1 (Ops.ops_pure r3)

set_option maxRecDepth 100000 in
theorem lifted (os : Os) (started : os.Started) (H : Type) (enc : TypeId × Value → H) :
    ReturnsInHanded {} Try.checked os 6 .any (Rows.phasePlaysSpec.pre6 enc Try.prog Try.f6 Rows.phasePlaysRow.domain false) (Rows.phasePlaysSpec.post enc Try.prog Try.f6 false true false false) := by
  refine returnsInHanded_of_change (C := Try.checked) own started (by kernel_rfl) Try.func6
    (ChangeSpec.witness6 (enc := enc) (C := Try.checked) false ⟨#[], #[.int .i64 0, .bool false, .int .u64 0, .slice none 0 0], []⟩ 8 (by kernel_rfl) (by kernel_rfl) (by kernel_rfl) (by kernel_rfl)) ?_
  intro W base args ds gs before hval0 hW hcnd _
  have hval : ∀ (j : Nat) t v, Try.f6.params[j]? = some t → args[j]? = some v → Value.okWide Try.prog W .any base t v := hval0
  have hW' := hW
  obtain ⟨p, q, hA0, hV, rfl, hfz, hnd⟩ := hW
  have hA : DataW.TrodAll enc Try.prog W 0 (fun _ => true) true Try.f6.params.toList args.toList ds p := hA0
  rw [Try.params6] at hA hval
  obtain ⟨v0, vs0, d0, ds0, p0, q0, hargs, rfl, rfl, h0, r0'⟩ := trodAll_cons hA
  obtain ⟨v1, vs1, d1, ds1, p1, q1, rfl, rfl, rfl, h1, r1'⟩ := trodAll_cons r0'
  obtain ⟨v2, vs2, d2, ds2, p2, q2, rfl, rfl, rfl, h2, r2'⟩ := trodAll_cons r1'
  obtain ⟨v3, vs3, d3, ds3, p3, q3, rfl, rfl, rfl, h3, r3'⟩ := trodAll_cons r2'
  obtain ⟨rfl, rfl, rfl⟩ := trodAll_nil r3'
  obtain rfl : args = #[v0, v1, v2, v3] := by cases args; simp_all
  obtain ⟨rfl, rfl⟩ := trodVars_none hV
  obtain ⟨a0, rfl, rfl, rfl, w0⟩ := open_int Try.underlying3 (hval 0 3 v0 rfl rfl) h0
  obtain ⟨a1, rfl, rfl, rfl⟩ := open_bool Try.underlying4 (hval 1 4 v1 rfl rfl) h1
  obtain ⟨a2, rfl, rfl, rfl, w2⟩ := open_int Try.underlying29 (hval 2 29 v2 rfl rfl) h2
  obtain ⟨a3, len3, cap3, rfl⟩ := okWide_slice Try.underlying22 (hval 3 22 v3 rfl rfl)
  have k3 := h3
  have lt3 : ∀ x ∈ p3, x.block < W.heap.size := by obtain ⟨m, hm⟩ := k3; exact DataW.trod_lt m _ _ _ hm
  obtain ⟨x3, r3⟩ := Rdr.Opens.arg o22 k3
  have r3 : (Rdr.slice (Rdr.seq (Rdr.int .u8) (Rdr.seq (Rdr.int .i64) (Rdr.seq (Rdr.slice (Rdr.int .i32)) Rdr.unit)))).rel W [.slice a3 len3 cap3] x3 := r3
  clear hA0 hval0
  refine (walk W a0 w0 a1 a2 w2 a3 len3 cap3 x3 r3).mono fun e W' ⟨he, bel⟩ => ?_
  subst he
  exact ⟨_, rfl, _, _, _, [], _, [], hW', trodAll_mk1 (shut_bool Try.underlying4 _), (trodAll_cons_mk (shut_int Try.underlying3 w0) (trodAll_cons_mk (shut_bool Try.underlying4 _) (trodAll_cons_mk (shut_int Try.underlying29 w2) (trodAll_cons_mk (Below.trod laidOut (by kernel_rfl) (of_decide_eq_true (by kernel_rfl)) k3 bel lt3) trodAll_mk0)))), rfl, bel.frame _, fun h => by cases h⟩

theorem over : Rows.phasePlaysRow.holds Try.pinned (OpenSpec.ofChange Rows.phasePlaysSpec) :=
  OpenClaim.holds_of_wide 6 Try.f6 rfl rfl rfl rfl rfl rfl rfl ⟨rfl, rfl, rfl, rfl, rfl⟩ rfl rfl rfl rfl rfl (by kernel_rfl) Try.func6 (by kernel_rfl)
    (of_decide_eq_true (by kernel_rfl)) (by unfold Func.isWrapper; first | (rw [if_pos (by decide +kernel)]; kernel_rfl) | (rw [if_neg (by decide +kernel)]; exact ⟨rfl, rfl⟩))
    (fun os started H enc _ => lifted os started H enc)

theorem proved : Rows.PhasePlaysSaid := over
#print axioms proved
end Go.Proofs.Ytcmicmghnmklnaa.phasePlays
