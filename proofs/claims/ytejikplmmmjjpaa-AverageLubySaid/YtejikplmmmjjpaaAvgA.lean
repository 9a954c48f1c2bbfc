/- The walks of the two calls Add of layer 15: a number is taken in, or refused, under the bounds on the value and the count that each theorem tells. -/
import Derived.Test.YtejikplmmmjjpaaRows
import Derived.Test.YtejikplmmmjjpaaMem
import Derived.Test.YtejikplmmmjjpaaShelf
import Derived.Test.YtejikplmmmjjpaaAvgW
import Derived.Test.YtejikplmmmjjpaaAvgM
import Derived.IntWalk
import Derived.WalkKit
import Derived.Deep.QuietTactic
import Derived.BigQuiet
import Derived.StillTailTactics
import Derived.Lib.Hide
import Derived.Outline
namespace Go.Proofs.Ytejikplmmmjjpaa.Avg
open Go.RowKit Go.Proofs.Ytejikplmmmjjpaa.Mem Go.Proofs.Ytejikplmmmjjpaa.AvgM
set_option linter.unusedVariables false

theorem add_bad {w : World} (x : Int) (g : Nat) (h : x < 0 ∨ 1073741824 < x) :
    Calls Try.prog 13 #[.pointer (some ⟨g, 0, none⟩), .int .i64 x] w fun e w' => e = .returned (.int .i64 2) ∧ w = w' := by
  rcases h with h | h
  · go_enter Try.func13, Try.ntmps13
    go_wp2
    go_ret
    exact ⟨rfl, rfl⟩
  · have h0 : ¬ x < 0 := by omega
    go_enter Try.func13, Try.ntmps13
    go_wp2
    go_ret
    exact ⟨rfl, rfl⟩
theorem add_nil {w : World} (x : Int) :
    Calls Try.prog 13 #[.pointer none, .int .i64 x] w fun e w' => e = .returned (.int .i64 1) ∧ w = w' := by
  go_enter Try.func13, Try.ntmps13
  go_wp2
  go_ret
  exact ⟨rfl, rfl⟩
theorem add_ok {w : World} {g : Nat} {s v c : Int} (x : Int) (h : Av w g s v c) (hs0 : 0 ≤ s) (hs1 : s ≤ 30) (hv0 : 0 ≤ v) (hv1 : v ≤ 4611686018427387904) (hc0 : 0 ≤ c) (hc1 : c ≤ 1000000) (hx0 : 0 ≤ x) (hx1 : x ≤ 1073741824) :
    Calls Try.prog 13 #[.pointer (some ⟨g, 0, none⟩), .int .i64 x] w fun e w' => e = .returned (.int .i64 0) ∧ Mod (· = g) w w' ∧ Av w' g s (addv s v c x) (c + 1) := by
  have H := Lib.hid h
  have c0 : w.cell? ⟨g, 0, none⟩ = some (.int .i64 s) := Blk.cell h 0
  have c1 : w.cell? ⟨g, 1, none⟩ = some (.int .i64 v) := Blk.cell h 1
  have c2 : w.cell? ⟨g, 2, none⟩ = some (.int .i64 c) := Blk.cell h 2
  have f0 : w.frozen? ⟨g, 1, none⟩ = false := Blk.frozen h 1
  have f1 : w.frozen? ⟨g, 2, none⟩ = false := Blk.frozen h 2
  clear h
  go_enter Try.func13, Try.ntmps13
  go_wp2
  generalize hW : w.setCell ⟨g, 2, none⟩ (.int .i64 (c + 1)) = W
  have HW := Lib.hid hW
  have d0 : W.cell? ⟨g, 0, none⟩ = some (.int .i64 s) := by rw [← hW]; exact Blk.cell (Blk.set_ H.out 2 _) 0
  have d1 : W.cell? ⟨g, 1, none⟩ = some (.int .i64 v) := by rw [← hW]; exact Blk.cell (Blk.set_ H.out 2 _) 1
  have d2 : W.cell? ⟨g, 2, none⟩ = some (.int .i64 (c + 1)) := by rw [← hW]; exact Blk.cell (Blk.set_ H.out 2 _) 2
  have f2 : W.frozen? ⟨g, 1, none⟩ = false := by rw [← hW]; exact Blk.frozen (Blk.set_ H.out 2 _) 1
  clear hW c0 c1 c2 f0 f1
  refine wp_region_still_tail 27 (by kernel_rfl) (by kernel_rfl) ?_
  change wpStill _ _ W.drew _ _ _
  simp only [List.take_succ_cons, List.take_zero, List.drop_succ_cons, List.drop_zero]
  have e1 : IntKind.i64.wrap (x * 4294967296) = x * 4294967296 := IntWalk.i64_in _ (by omega)
  have e2 : IntKind.i64.wrap (x * 4294967296 - v) = x * 4294967296 - v := IntWalk.i64_in _ (by omega)
  have e3 : IntKind.u64.wrap (c + 1) = c + 1 := by rw [IntKind.wrap_u64]; omega
  have hb := bitLen_lg (n := c + 1) (by omega) (by omega)
  have hl : lg (c + 1) ≤ 30 := lg_bound (by omega) (by omega)
  have e4 : IntKind.i64.wrap ((Lib.bitLen (c + 1).toNat : Int) - 1) = (lg (c + 1) : Int) := by rw [IntWalk.i64_in _ (by omega)]; omega
  clear hb
  repeat still_step
  still_call (Try.bits_Len64 (c + 1) _ (by omega) (by omega))
  clear e3
  have hav := addv_bounds (s := s) (c := c) hv0 hv1 hx0 hx1
  by_cases hm : (lg (c + 1) : Int) < s
  · have e5 : IntKind.i64.wrap (v + (x * 4294967296 - v) / 2 ^ lg (c + 1)) = addv s v c x := by
      have : addv s v c x = v + (x * 4294967296 - v) / 2 ^ lg (c + 1) := by unfold addv; rw [show min s.toNat (lg (c + 1)) = lg (c + 1) by omega]
      rw [← this]; exact IntWalk.i64_in _ (by omega)
    repeat still_step
    refine wpStill_nil ?_
    change wpList _ _ _ _ _ W.drew
    clear e1 e2 e4 e5
    go_wp2
    go_ret
    refine ⟨rfl, ?_, ?_⟩
    · rw [← HW.out]
      exact (((Mod.refl (· = g) w).setCell (p := ⟨g, 2, none⟩) (.inl rfl) _).setCell (p := ⟨g, 1, none⟩) (.inl rfl) _).drew
    · rw [← HW.out]
      exact Blk.set_ (Blk.drew (Blk.set_ H.out 2 _)) 1 _
  · have e5 : IntKind.i64.wrap (v + (x * 4294967296 - v) / 2 ^ s.toNat) = addv s v c x := by
      have : addv s v c x = v + (x * 4294967296 - v) / 2 ^ s.toNat := by unfold addv; rw [show min s.toNat (lg (c + 1)) = s.toNat by omega]
      rw [← this]; exact IntWalk.i64_in _ (by omega)
    repeat still_step
    refine wpStill_nil ?_
    change wpList _ _ _ _ _ W.drew
    clear e1 e2 e4 e5
    go_wp2
    go_ret
    refine ⟨rfl, ?_, ?_⟩
    · rw [← HW.out]
      exact (((Mod.refl (· = g) w).setCell (p := ⟨g, 2, none⟩) (.inl rfl) _).setCell (p := ⟨g, 1, none⟩) (.inl rfl) _).drew
    · rw [← HW.out]
      exact Blk.set_ (Blk.drew (Blk.set_ H.out 2 _)) 1 _
end Go.Proofs.Ytejikplmmmjjpaa.Avg
