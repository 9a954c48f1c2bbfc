/- The walks of the bells, the program's and the reference's, and of the law AverageBells: for every period and every count. -/
import Derived.Test.YtejikplmmmjjpaaAvgK
import Derived.Deep.RegionHeld3
namespace Go.Proofs.Ytejikplmmmjjpaa.Avg
open Go.RowKit Go.Proofs.Ytejikplmmmjjpaa.Mem Go.Proofs.Ytejikplmmmjjpaa.AvgM
set_option linter.unusedVariables false

def Bl (w : World) (g : Nat) (p l r : Int) : Prop := Blk w g 71 #[.int .i64 p, .int .i64 l, .int .i64 r]
def Cl (w : World) (g : Nat) (p n r : Int) : Prop := Blk w g 55 #[.int .i64 p, .int .i64 n, .int .i64 r]
theorem bell_new (w : World) (p : Int) : Bl (w.alloc (.cells #[.int .i64 p, .int .i64 p, .int .i64 1] 71)) w.heap.size p p 1 := Blk.new _ _ _
theorem rbell_new (w : World) (p : Int) : Cl (w.alloc (.cells #[.int .i64 p, .int .i64 0, .int .i64 1] 55)) w.heap.size p 0 1 := Blk.new _ _ _

theorem newbell_ok (s : Int) (w : World) (h0 : 1 ≤ s) (h1 : s ≤ 2147483647) :
    Calls Try.prog 23 #[.int .i64 s] w fun e w' => e = .returned (.tuple #[.pointer (some ⟨w.heap.size, 0, none⟩), .int .i64 0]) ∧ w' = w.alloc (.cells #[.int .i64 s, .int .i64 s, .int .i64 1] 71) := by
  have a1 : ¬ s < 1 := by omega
  have a2 : (s / 2147483648 != 0) = false := by
    have : s / 2147483648 = 0 := by omega
    rw [this]; rfl
  go_enter Try.func23, Try.ntmps23
  go_wp2
  go_ret2
  exact ⟨rfl, rfl⟩
theorem newbell_bad (s : Int) (w : World) (h : s < 1 ∨ 2147483647 < s) :
    Calls Try.prog 23 #[.int .i64 s] w fun e w' => e = .returned (.tuple #[.pointer none, .int .i64 2]) ∧ w = w' := by
  rcases h with h | h
  · go_enter Try.func23, Try.ntmps23
    go_wp2
    go_ret2
    exact ⟨rfl, rfl⟩
  · have a1 : ¬ s < 1 := by omega
    have a2 : (s / 2147483648 != 0) = true := by
      rw [bne_iff_ne]; omega
    go_enter Try.func23, Try.ntmps23
    go_wp2
    go_ret2
    exact ⟨rfl, rfl⟩
theorem rnewbell_ok (s : Int) (w : World) (h0 : 1 ≤ s) (h1 : s ≤ 2147483647) :
    Calls Try.prog 24 #[.int .i64 s] w fun e w' => e = .returned (.tuple #[.pointer (some ⟨w.heap.size, 0, none⟩), .int .i64 0]) ∧ w' = w.alloc (.cells #[.int .i64 s, .int .i64 0, .int .i64 1] 55) := by
  have a1 : ¬ s < 1 := by omega
  have a2 : ¬ 2147483648 ≤ s := by omega
  go_enter Try.func24, Try.ntmps24
  go_wp2
  go_ret2
  exact ⟨rfl, rfl⟩
theorem rnewbell_bad (s : Int) (w : World) (h : s < 1 ∨ 2147483647 < s) :
    Calls Try.prog 24 #[.int .i64 s] w fun e w' => e = .returned (.tuple #[.pointer none, .int .i64 2]) ∧ w = w' := by
  rcases h with h | h
  · go_enter Try.func24, Try.ntmps24
    go_wp2
    go_ret2
    exact ⟨rfl, rfl⟩
  · have a1 : ¬ s < 1 := by omega
    have a2 : 2147483648 ≤ s := by omega
    go_enter Try.func24, Try.ntmps24
    go_wp2
    go_ret2
    exact ⟨rfl, rfl⟩
theorem round_any {w : World} {g : Nat} {p l r : Int} (h : Bl w g p l r) :
    Calls Try.prog 27 #[.pointer (some ⟨g, 0, none⟩)] w fun e w' => e = .returned (.int .i64 r) ∧ w = w' := by
  have c2 : w.cell? ⟨g, 2, none⟩ = some (.int .i64 r) := Blk.cell h 2
  clear h
  go_enter Try.func27, Try.ntmps27
  go_wp2
  go_ret
  exact ⟨rfl, rfl⟩
theorem round_nil (w : World) :
    Calls Try.prog 27 #[.pointer none] w fun e w' => e = .returned (.int .i64 0) ∧ w = w' := by
  go_enter Try.func27, Try.ntmps27
  go_wp2
  go_ret
  exact ⟨rfl, rfl⟩
theorem tick_nil (w : World) :
    Calls Try.prog 25 #[.pointer none] w fun e w' => e = .returned (.bool false) ∧ w = w' := by
  go_enter Try.func25, Try.ntmps25
  go_wp2
  go_ret
  exact ⟨rfl, rfl⟩
theorem tick_no {w : World} {g : Nat} {p l r : Int} (h : Bl w g p l r) (h0 : 2 ≤ l) (h1 : l ≤ 9223372036854775807) :
    Calls Try.prog 25 #[.pointer (some ⟨g, 0, none⟩)] w fun e w' => e = .returned (.bool false) ∧ Mod (· = g) w w' ∧ Bl w' g p (l - 1) r := by
  have H := Lib.hid h
  have c1 : w.cell? ⟨g, 1, none⟩ = some (.int .i64 l) := Blk.cell h 1
  have f1 : w.frozen? ⟨g, 1, none⟩ = false := Blk.frozen h 1
  clear h
  go_enter Try.func25, Try.ntmps25
  go_wp2
  go_ret
  exact ⟨rfl, (Mod.refl (· = g) w).setCell (p := ⟨g, 1, none⟩) (.inl rfl) _, Blk.set_ H.out 1 _⟩
theorem tick_yes {w : World} {g : Nat} {p l : Int} {r : Nat} (h : Bl w g p l r) (h0 : 0 ≤ l) (h1 : l ≤ 1) (hr0 : 1 ≤ r) (hr1 : r ≤ 1000000) (hp0 : 1 ≤ p) (hp1 : p ≤ 2147483647) :
    Calls Try.prog 25 #[.pointer (some ⟨g, 0, none⟩)] w fun e w' => e = .returned (.bool true) ∧ Mod (· = g) w w' ∧ Bl w' g p (p * lub (r + 1)) ((r + 1 : Nat) : Int) := by
  have H := Lib.hid h
  have c1 : w.cell? ⟨g, 1, none⟩ = some (.int .i64 l) := Blk.cell h 1
  have c2 : w.cell? ⟨g, 2, none⟩ = some (.int .i64 r) := Blk.cell h 2
  have f1 : w.frozen? ⟨g, 1, none⟩ = false := Blk.frozen h 1
  have f2 : w.frozen? ⟨g, 2, none⟩ = false := Blk.frozen h 2
  clear h
  go_enter Try.func25, Try.ntmps25
  go_wp2_with fail
  generalize hW : (w.setCell ⟨g, 1, none⟩ (.int .i64 (l - 1))).setCell ⟨g, 2, none⟩ (.int .i64 ((r : Int) + 1)) = W
  have HW := Lib.hid hW
  have hb := Lib.hid (show Bl W g p (l - 1) ((r + 1 : Nat) : Int) from hW ▸ Blk.set_ (Blk.set_ H.out 1 _) 2 _)
  have d0 : W.cell? ⟨g, 0, none⟩ = some (.int .i64 p) := Blk.cell hb.out 0
  have d2 : W.cell? ⟨g, 2, none⟩ = some (.int .i64 ((r : Int) + 1)) := Blk.cell hb.out 2
  have g1 : W.frozen? ⟨g, 1, none⟩ = false := Blk.frozen hb.out 1
  have g2 : W.cell? ⟨g, 1, none⟩ = some (.int .i64 (l - 1)) := Blk.cell hb.out 1
  clear hW c1 c2 f1 f2
  refine wp_region_still_tail 14 (by kernel_rfl) (by kernel_rfl) ?_
  change wpStill _ _ W.drew _ _ _
  simp only [List.take_succ_cons, List.take_zero, List.drop_succ_cons, List.drop_zero]
  have hl := lub_le (i := r + 1) (by omega) (by omega)
  have hm : 0 ≤ p * (lub (r + 1) : Int) ∧ p * (lub (r + 1) : Int) ≤ 2147483647 * 1000001 :=
    ⟨Int.mul_nonneg (by omega) (by omega), Int.le_trans (Int.mul_le_mul_of_nonneg_right hp1 (by omega)) (Int.mul_le_mul_of_nonneg_left (by omega) (by omega))⟩
  have e1 : IntKind.u64.wrap ((r : Int) + 1) = ((r + 1 : Nat) : Int) := by rw [IntWalk.u64_in _ (by omega)]; omega
  have e2 : IntKind.i64.wrap (p * (lub (r + 1) : Int)) = p * (lub (r + 1) : Int) := IntWalk.i64_in _ (by omega)
  clear hl hm
  have HL := Lib.hid (fun w => (luby_any (r + 1) w (by omega) (by omega)).mono fun _ _ h => (⟨h.1, h.2.symm⟩ : _ ∧ _))
  repeat still_step
  still_call (HL.out _)
  repeat still_step
  refine wpStill_nil ?_
  change wpList _ _ _ _ _ W.drew
  clear e1 e2
  go_wp2
  go_ret
  refine ⟨rfl, ?_, ?_⟩
  · rw [← HW.out]
    exact (((Mod.refl (· = g) w).setCell (p := ⟨g, 1, none⟩) (.inl rfl) _).setCell (p := ⟨g, 2, none⟩) (.inl rfl) _).setCell (p := ⟨g, 1, none⟩) (.inl rfl) _ |>.drew
  · exact Blk.set_ hb.out 1 _
end Go.Proofs.Ytejikplmmmjjpaa.Avg
