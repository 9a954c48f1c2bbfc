/- The statement ArenaPlaysUptoSaid: for every input of bulk at most 1048576 the law answers true, and each argument reads behind the call as it read before. (The frame is turned from the kit's own skeleton.) -/
import Derived.Test.YtenadnmglhghiaaRows
import Derived.WalkKit
import Derived.Below
import Derived.ProofKit
import Derived.OpenShut
import Derived.ShutString
import Derived.ChangeOld
import Derived.Test.YtenadnmglhghiaaBg
namespace Go.Proofs.Ytenadnmglhghiaa.arenaPlays
open Go.ChangeShapes Go.WideShapes Go.ChangeAt Go.RowKit
open Go.ChangeMaps (open_string shut_string)
set_option linter.unusedVariables false

theorem own : ownKnob Try.prog.godebug = none := by kernel_rfl
theorem laidOut : laidOutB Try.prog = true := by kernel_rfl
theorem o3 : RdU.Opens Try.prog 3 (Rdr.int .i64) := RdU.opens_int Try.underlying3 (by kernel_rfl)
theorem o2 : RdU.Opens Try.prog 2 (Rdr.int .i64) := RdU.opens_int Try.underlying2 (by kernel_rfl)
theorem o26 : RdU.Opens Try.prog 26 (Rdr.int .i32) := RdU.opens_int Try.underlying26 (by kernel_rfl)
theorem o25 : RdU.Opens Try.prog 25 (RdU.sliceU (Rdr.int .i32)) := RdU.opens_slice Try.underlying25 (by kernel_rfl) o26
theorem o4 : RdU.Opens Try.prog 4 Rdr.bool := RdU.opens_bool Try.underlying4 (by kernel_rfl)
theorem o57 : RdU.Opens Try.prog 57 (Rdr.seq (Rdr.int .i64) (Rdr.seq (Rdr.int .i64) (Rdr.seq (RdU.sliceU (Rdr.int .i32)) (Rdr.seq Rdr.bool (Rdr.seq (Rdr.int .i64) (Rdr.seq Rdr.bool (Rdr.seq (Rdr.int .i64) (Rdr.seq (Rdr.int .i64) Rdr.unit)))))))) := RdU.opens_struct Try.underlying57 (by kernel_rfl) (.cons rfl o3 (.cons rfl o2 (.cons rfl o25 (.cons rfl o4 (.cons rfl o3 (.cons rfl o4 (.cons rfl o3 (.cons rfl o3 ((.nil _))))))))))
theorem o51 : RdU.Opens Try.prog 51 (RdU.sliceU (Rdr.seq (Rdr.int .i64) (Rdr.seq (Rdr.int .i64) (Rdr.seq (RdU.sliceU (Rdr.int .i32)) (Rdr.seq Rdr.bool (Rdr.seq (Rdr.int .i64) (Rdr.seq Rdr.bool (Rdr.seq (Rdr.int .i64) (Rdr.seq (Rdr.int .i64) Rdr.unit))))))))) := RdU.opens_slice Try.underlying51 (by kernel_rfl) o57

theorem walk (w : World) (a0 : Int) (w0 : (Lit.int .i64 a0).wf = true) (a1 : Option Addr) (len1 cap1 : Nat) (x1) (r1 : (RdU.sliceU (Rdr.seq (Rdr.int .i64) (Rdr.seq (Rdr.int .i64) (Rdr.seq (RdU.sliceU (Rdr.int .i32)) (Rdr.seq Rdr.bool (Rdr.seq (Rdr.int .i64) (Rdr.seq Rdr.bool (Rdr.seq (Rdr.int .i64) (Rdr.seq (Rdr.int .i64) Rdr.unit))))))))).rel w [.slice a1 len1 cap1] x1) :
    Calls Try.prog 4 #[.int .i64 a0, .slice a1 len1 cap1] w fun e w' => e = .returned (.bool true) ∧ Below w.heap.size w w' := by
  have h0 : -9223372036854775808 ≤ a0 ∧ a0 ≤ 9223372036854775807 := by
    simp only [Lit.wf, Bool.and_eq_true, decide_eq_true_eq] at w0
    exact w0
  obtain ⟨h1, h2, h3⟩ := Ar.stsU_of r1
  exact Ar.plays_walk a0 h0 a1 len1 cap1 _ h1 h2 h3

set_option maxRecDepth 100000 in
theorem lifted (os : Os) (started : os.Started) (H : Type) (enc : TypeId × Value → H) (F : Stop.Interp) :
    ReturnsInHanded {} Try.checked os 4 .any ((Rows.OpenSpec.upto Rows.arenaPlaysSpec).pre6 enc Try.prog Try.f4 Rows.arenaPlaysUptoRow.domain false) (((Rows.OpenSpec.upto Rows.arenaPlaysSpec).at F).post enc Try.prog Try.f4 false true false false) := by
  refine returnsInHanded_of_cond (C := Try.checked) (s := Rows.OpenSpec.upto Rows.arenaPlaysSpec) (k := Rows.uptoSmall) rfl own started (by kernel_rfl) Try.func4
    (OpenSpec.witness (enc := enc) (C := Try.checked) (s := Rows.OpenSpec.upto Rows.arenaPlaysSpec) (k := Rows.uptoSmall) rfl false ⟨#[], #[.int .i64 0, .slice none 0 0], []⟩ 8 (by kernel_rfl) (by kernel_rfl) (by kernel_rfl)
      (x := ([.lit (.int .i64 0), .nil], [], [])) (by kernel_rfl) rfl (by kernel_rfl)) ?_
  intro W base args ds gs before hval0 hW hcnd hk _
  have hval : ∀ (j : Nat) t v, Try.f4.params[j]? = some t → args[j]? = some v → Value.okWide Try.prog W .any base t v := hval0
  have hW' := hW
  obtain ⟨p, q, hA0, hV, rfl, hfz, hnd⟩ := hW
  have hA : DataW.TrodAll enc Try.prog W 0 (fun _ => true) true Try.f4.params.toList args.toList ds p := hA0
  rw [Try.params4] at hA hval
  obtain ⟨v0, vs0, d0, ds0, p0, q0, hargs, rfl, rfl, h0, r0'⟩ := trodAll_cons hA
  obtain ⟨v1, vs1, d1, ds1, p1, q1, rfl, rfl, rfl, h1, r1'⟩ := trodAll_cons r0'
  obtain ⟨rfl, rfl, rfl⟩ := trodAll_nil r1'
  obtain rfl : args = #[v0, v1] := by cases args; simp_all
  obtain ⟨rfl, rfl⟩ := trodVars_none hV
  have hkb := RdU.bound hk
  obtain ⟨a0, rfl, rfl, rfl, w0⟩ := open_int Try.underlying3 (hval 0 3 v0 rfl rfl) h0
  obtain ⟨a1, len1, cap1, rfl⟩ := okWide_slice Try.underlying51 (hval 1 51 v1 rfl rfl)
  have k1 := h1
  have lt1 : ∀ x ∈ p1, x.block < W.heap.size := by obtain ⟨m, hm⟩ := k1; exact DataW.trod_lt m _ _ _ hm
  obtain ⟨x1, r1⟩ := RdU.Opens.arg o51 k1 (Nat.le_trans (RdU.part_le (by simp)) hkb)
  have r1 : (RdU.sliceU (Rdr.seq (Rdr.int .i64) (Rdr.seq (Rdr.int .i64) (Rdr.seq (RdU.sliceU (Rdr.int .i32)) (Rdr.seq Rdr.bool (Rdr.seq (Rdr.int .i64) (Rdr.seq Rdr.bool (Rdr.seq (Rdr.int .i64) (Rdr.seq (Rdr.int .i64) Rdr.unit))))))))).rel W [.slice a1 len1 cap1] x1 := r1
  clear hA0 hval0
  refine (walk W a0 w0 a1 len1 cap1 x1 r1).mono fun e W' ⟨he, bel⟩ => ?_
  subst he
  exact ⟨_, rfl, _, _, _, [], _, [], hW', trodAll_mk1 (shut_bool Try.underlying4 _), (trodAll_cons_mk (shut_int Try.underlying3 w0) (trodAll_cons_mk (Below.trod laidOut (by kernel_rfl) (of_decide_eq_true (by kernel_rfl)) k1 bel lt1) trodAll_mk0)), rfl, bel.frame _, fun h => by cases h⟩

theorem over : Rows.arenaPlaysUptoRow.holds Try.pinned (Rows.OpenSpec.upto Rows.arenaPlaysSpec) :=
  OpenClaim.holds_of_cond 4 Try.f4 rfl rfl rfl rfl rfl rfl rfl ⟨rfl, rfl, rfl, rfl, rfl⟩ rfl rfl rfl rfl rfl (by kernel_rfl) Try.func4 (by kernel_rfl)
    (of_decide_eq_true (by kernel_rfl)) (by unfold Func.isWrapper; first | (rw [if_pos (by decide +kernel)]; kernel_rfl) | (rw [if_neg (by decide +kernel)]; exact ⟨rfl, rfl⟩))
    (fun os started H enc _ F => lifted os started H enc F)

theorem proved : Rows.ArenaPlaysUptoSaid := over
#print axioms proved
end Go.Proofs.Ytenadnmglhghiaa.arenaPlays
