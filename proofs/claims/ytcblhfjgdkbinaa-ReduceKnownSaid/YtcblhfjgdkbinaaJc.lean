/- Whether a record goes; Choose's predicate. Conditions: the memory. -/
import Derived.Test.YtcblhfjgdkbinaaJb
namespace Go.Proofs.Ytcblhfjgdkbinaa.Re
open Go.RowKit Go.Proofs.Ytcblhfjgdkbinaa.Mem Go.Proofs.Ytcblhfjgdkbinaa.Sl Go.Shelf
open Go.Proofs.Ytcblhfjgdkbinaa.FnL (enc_at below_then)
set_option linter.unusedVariables false

/-- May it go? -/
def goF (g : Int) (x : Rc) : Bool := if x.locked = true then false else if tierF x.lbd g = 2 then decide (x.used = 0) else if tierF x.lbd g = 3 then decide (x.used < 2) else false
set_option maxHeartbeats 1000000 in
theorem goes_any (x : Rc) (g : Int) (w : World) : Calls Try.prog 17 #[agR x, .int .i64 g] w fun e w' => e = .returned (.bool (goF g x)) ∧ Below w.heap.size w w' := by
  have HT := Lib.hid (fun W => tier_any x g W)
  have HC := Lib.hid (tierF_cases x.lbd g)
  have HF := Lib.hid (show goF g x = if x.locked = true then false else if tierF x.lbd g = 2 then decide (x.used = 0) else if tierF x.lbd g = 3 then decide (x.used < 2) else false from rfl)
  generalize tierF x.lbd g = T at *
  generalize goF g x = R at *
  obtain ⟨id, lbd, size, used, locked⟩ := x
  cases locked with
  | true =>
    obtain ⟨W, hW⟩ : ∃ W, W = (w.alloc (.cells #[.int .i64 id, .int .i64 lbd, .int .i64 size, .int .i64 used, .bool true] 28)) := ⟨_, rfl⟩
    have HB := Lib.hid (show Below w.heap.size w W by rw [hW]; exact (Below.refl _ _).alloc (Nat.le_refl _) _)
    have HX := Lib.hid (show Blk W w.heap.size 28 #[.int .i64 id, .int .i64 lbd, .int .i64 size, .int .i64 used, .bool true] by rw [hW]; exact Blk.new _ _ _)
    have HW := Lib.hid hW
    clear hW
    have HX2 := Lib.hid (fun (W2 : World) (hb : Below W.heap.size W W2) => (show (W2.cell? ⟨w.heap.size, 0, none⟩ = some (.int .i64 id) ∧ W2.cell? ⟨w.heap.size, 1, none⟩ = some (.int .i64 lbd) ∧ W2.cell? ⟨w.heap.size, 2, none⟩ = some (.int .i64 size) ∧ W2.cell? ⟨w.heap.size, 3, none⟩ = some (.int .i64 used) ∧ W2.cell? ⟨w.heap.size, 4, none⟩ = some (.bool true)) from ⟨(HX.out.below hb).cell 0, (HX.out.below hb).cell 1, (HX.out.below hb).cell 2, (HX.out.below hb).cell 3, (HX.out.below hb).cell 4⟩))
    have HR := Lib.hid (show R = false by rw [HF.out]; rfl)
    go_enter Try.func17, Try.ntmps17
    go_wp2_with fail
    go_ret
    exact ⟨by rw [HR.out]; rfl, by rw [← HW.out]; exact HB.out⟩
  | false =>
    obtain ⟨W, hW⟩ : ∃ W, W = (w.alloc (.cells #[.int .i64 id, .int .i64 lbd, .int .i64 size, .int .i64 used, .bool false] 28)) := ⟨_, rfl⟩
    have HB := Lib.hid (show Below w.heap.size w W by rw [hW]; exact (Below.refl _ _).alloc (Nat.le_refl _) _)
    have HX := Lib.hid (show Blk W w.heap.size 28 #[.int .i64 id, .int .i64 lbd, .int .i64 size, .int .i64 used, .bool false] by rw [hW]; exact Blk.new _ _ _)
    have HW := Lib.hid hW
    clear hW
    have HX2 := Lib.hid (fun (W2 : World) (hb : Below W.heap.size W W2) => (show (W2.cell? ⟨w.heap.size, 0, none⟩ = some (.int .i64 id) ∧ W2.cell? ⟨w.heap.size, 1, none⟩ = some (.int .i64 lbd) ∧ W2.cell? ⟨w.heap.size, 2, none⟩ = some (.int .i64 size) ∧ W2.cell? ⟨w.heap.size, 3, none⟩ = some (.int .i64 used) ∧ W2.cell? ⟨w.heap.size, 4, none⟩ = some (.bool false)) from ⟨(HX.out.below hb).cell 0, (HX.out.below hb).cell 1, (HX.out.below hb).cell 2, (HX.out.below hb).cell 3, (HX.out.below hb).cell 4⟩))
    rcases HC.out with ⟨hT, _⟩ | ⟨hT, _⟩ | ⟨hT, _⟩
    · have HR := Lib.hid (show R = false by rw [HF.out, hT]; rfl)
      subst hT
      go_enter Try.func17, Try.ntmps17
      go_wp2_with fail
      refine (HT.out _).mono ?_
      rintro e w1 ⟨rfl, hb1⟩
      have HB1 := Lib.hid (show Below w.heap.size w w1 from below_then HB.out (by rw [HW.out]; exact hb1) HB.out.size)
      have HX1 := Lib.hid (fun (W2 : World) (hb : Below w1.heap.size w1 W2) => HX2.out W2 (below_then (by rw [HW.out]; exact hb1) hb (by rw [HW.out]; exact hb1.size)))
      obtain ⟨c0, c1, c2, c3, c4⟩ := HX1.out w1 (Below.refl _ _)
      clear hb1
      go_wp2_with fail
      refine (HT.out _).mono ?_
      rintro e w2 ⟨rfl, hb2⟩
      have HB2 := Lib.hid (show Below w.heap.size w w2 from below_then HB1.out hb2 HB1.out.size)
      clear c0 c1 c2 c3 c4
      obtain ⟨c0, c1, c2, c3, c4⟩ := HX1.out w2 hb2
      clear hb2
      go_wp2
      go_ret
      exact ⟨by rw [HR.out]; rfl, HB2.out⟩
    · have HR := Lib.hid (show R = decide (used = 0) by rw [HF.out, hT]; rfl)
      subst hT
      go_enter Try.func17, Try.ntmps17
      go_wp2_with fail
      refine (HT.out _).mono ?_
      rintro e w1 ⟨rfl, hb1⟩
      have HB1 := Lib.hid (show Below w.heap.size w w1 from below_then HB.out (by rw [HW.out]; exact hb1) HB.out.size)
      have HX1 := Lib.hid (fun (W2 : World) (hb : Below w1.heap.size w1 W2) => HX2.out W2 (below_then (by rw [HW.out]; exact hb1) hb (by rw [HW.out]; exact hb1.size)))
      obtain ⟨c0, c1, c2, c3, c4⟩ := HX1.out w1 (Below.refl _ _)
      clear hb1
      go_wp2
      go_ret
      exact ⟨by rw [HR.out]; rfl, HB1.out⟩
    · have HR := Lib.hid (show R = decide (used < 2) by rw [HF.out, hT]; rfl)
      subst hT
      go_enter Try.func17, Try.ntmps17
      go_wp2_with fail
      refine (HT.out _).mono ?_
      rintro e w1 ⟨rfl, hb1⟩
      have HB1 := Lib.hid (show Below w.heap.size w w1 from below_then HB.out (by rw [HW.out]; exact hb1) HB.out.size)
      have HX1 := Lib.hid (fun (W2 : World) (hb : Below w1.heap.size w1 W2) => HX2.out W2 (below_then (by rw [HW.out]; exact hb1) hb (by rw [HW.out]; exact hb1.size)))
      obtain ⟨c0, c1, c2, c3, c4⟩ := HX1.out w1 (Below.refl _ _)
      clear hb1
      go_wp2_with fail
      refine (HT.out _).mono ?_
      rintro e w2 ⟨rfl, hb2⟩
      have HB2 := Lib.hid (show Below w.heap.size w w2 from below_then HB1.out hb2 HB1.out.size)
      clear c0 c1 c2 c3 c4
      obtain ⟨c0, c1, c2, c3, c4⟩ := HX1.out w2 hb2
      clear hb2
      go_wp2
      go_ret
      exact ⟨by rw [HR.out]; rfl, HB2.out⟩
set_option maxHeartbeats 1000000 in
theorem not_any (x : Rc) (g : Int) (w : World) (b : Nat) (hc : w.cell? ⟨b, 0, none⟩ = some (.int .i64 g)) (hb : b < w.heap.size) : Calls Try.prog 16 #[agR x, .pointer (some ⟨b, 0, none⟩)] w fun e w' => e = .returned (.bool (!goF g x)) ∧ Below w.heap.size w w' := by
  have HG := Lib.hid (fun W => goes_any x g W)
  generalize goF g x = R at *
  have HB := Lib.hid ((Below.refl w.heap.size w).alloc (Nat.le_refl _) (.cells #[.int .i64 x.id, .int .i64 x.lbd, .int .i64 x.size, .int .i64 x.used, .bool x.locked] 28))
  go_enter Try.func16, Try.ntmps16
  go_wp2_with fail
  refine (HG.out _).mono ?_
  rintro e w1 ⟨rfl, hb1⟩
  have HB1 := Lib.hid (below_then HB.out hb1 HB.out.size)
  clear hb1
  go_wp2
  go_ret
  exact ⟨rfl, HB1.out⟩
end Go.Proofs.Ytcblhfjgdkbinaa.Re
