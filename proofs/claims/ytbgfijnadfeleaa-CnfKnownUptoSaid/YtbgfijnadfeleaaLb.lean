/- threshinglaw01.works (printed by wip/tools/gen_works01.py): it answers true in whatever memory. No condition. -/
import Derived.Test.YtbgfijnadfeleaaLa
namespace Go.Proofs.Ytbgfijnadfeleaa.La
open Go.RowKit Go.Proofs.Ytbgfijnadfeleaa.Mem Go.Proofs.Ytbgfijnadfeleaa.Sl Go.Proofs.Ytbgfijnadfeleaa.Cl Go.Proofs.Ytbgfijnadfeleaa.App Go.Proofs.Ytbgfijnadfeleaa.Cm Go.Shelf
open Go.Proofs.Ytbgfijnadfeleaa.Cs (Normal_any)
open Go.Proofs.Ytbgfijnadfeleaa.Cx (Resolve_any resN resB resE)
open Go.Proofs.Ytbgfijnadfeleaa.Cp (normL bothL)
open Go.Proofs.Ytbgfijnadfeleaa.FnL (Pred enc_at below_then)
set_option linter.unusedVariables false

set_option maxRecDepth 100000 in
theorem works_any (w : World) :
    Calls Try.prog 13 #[] w fun e w' => e = .returned (.bool true) ∧ Below w.heap.size w w' := by
  go_enter Try.func13, Try.ntmps13
  go_wp2_with fail
  obtain ⟨W, haW⟩ : ∃ W, W = (w.alloc (Obj.cells #[Value.int IntKind.i32 3, Value.int IntKind.i32 (-1), Value.int IntKind.i32 3, Value.int IntKind.i32 2] 27)) := ⟨_, rfl⟩
  rw [← haW]
  have has : W.heap.size = w.heap.size + 1 := by rw [haW]; simp
  have HaB := Lib.hid (show Below w.heap.size w W by
    rw [haW]
    exact (Below.refl _ w).alloc (Nat.le_refl _) _)
  have HC := Lib.hid (Normal_any (w := W) (B := W.heap.size) ⟨some ⟨w.heap.size, 0, none⟩, 4, 4, [3, -1, 3, 2]⟩ (cl_blk (W := W) (B := W.heap.size) (g := w.heap.size) (n := 4) (c := 4) (t := 27) (l := [3, -1, 3, 2]) (by rw [haW]; repeat (first | exact blk_here (by simp) | refine Blk.alloc ?_ _)) (by omega) rfl (by decide) (by decide)) (Nat.le_refl _) (by show 4 ≤ 1000000; decide))
  rw [show normL [3, -1, 3, 2] = [-1, 2, 3] by decide, show bothL [3, -1, 3, 2] = false by decide] at HC
  clear haW has
  refine HC.out.mono ?_
  rintro e w1 ⟨⟨A, rfl, hF⟩, hb1⟩
  have HF := Lib.hid hF
  have HB1 := Lib.hid (below_then HaB.out hb1 HaB.out.size)
  clear hF hb1 HC
  simp only [List.length_cons, List.length_nil, Nat.zero_add, Nat.reduceAdd] at HF ⊢
  go_wp2_with fail
  obtain ⟨W1, hbW⟩ : ∃ W1, W1 = ((w1.alloc (Obj.cells #[Value.int IntKind.i32 1, Value.int IntKind.i32 2] 27)).alloc (Obj.cells #[Value.int IntKind.i32 (-1), Value.int IntKind.i32 3] 27)) := ⟨_, rfl⟩
  rw [← hbW]
  have hbs : W1.heap.size = w1.heap.size + 2 := by rw [hbW]; simp
  have HbB := Lib.hid (show Below w1.heap.size w1 W1 by
    rw [hbW]
    exact ((Below.refl _ w1).alloc (Nat.le_refl _) _).alloc (by simp) _)
  have HC := Lib.hid (Resolve_any (w := W1) (B := W1.heap.size) ⟨some ⟨w1.heap.size, 0, none⟩, 2, 2, [1, 2]⟩ ⟨some ⟨w1.heap.size + 1, 0, none⟩, 2, 2, [-1, 3]⟩ 1 (cl_blk (W := W1) (B := W1.heap.size) (g := w1.heap.size) (n := 2) (c := 2) (t := 27) (l := [1, 2]) (by rw [hbW]; repeat (first | exact blk_here (by simp) | refine Blk.alloc ?_ _)) (by omega) rfl (by decide) (by decide)) (cl_blk (W := W1) (B := W1.heap.size) (g := w1.heap.size + 1) (n := 2) (c := 2) (t := 27) (l := [-1, 3]) (by rw [hbW]; repeat (first | exact blk_here (by simp) | refine Blk.alloc ?_ _)) (by omega) rfl (by decide) (by decide)) (Nat.le_refl _) (by show 2 ≤ 400000; decide) (by show 2 ≤ 400000; decide))
  rw [show resN [1, 2] [-1, 3] 1 = [2, 3] by decide, show resB [1, 2] [-1, 3] 1 = false by decide, show resE [1, 2] [-1, 3] 1 = 0 by decide] at HC
  have HF1 := Lib.hid (HF.out.below HbB.out)
  clear hbW hbs HF
  refine HC.out.mono ?_
  rintro e w2 ⟨⟨A2, rfl, hG⟩, hb2⟩
  have HG := Lib.hid hG
  have HF2 := Lib.hid (HF1.out.below hb2)
  have HB2 := Lib.hid (below_then (below_then HB1.out HbB.out HB1.out.size) hb2 (Nat.le_trans HB1.out.size HbB.out.size))
  clear hG hb2 HC HF1
  simp only [List.length_cons, List.length_nil, Nat.zero_add, Nat.reduceAdd] at HG ⊢
  go_wp2_with fail
  obtain ⟨W2, hcW⟩ : ∃ W2, W2 = (w2.alloc (Obj.cells #[Value.int IntKind.i32 (-1), Value.int IntKind.i32 2, Value.int IntKind.i32 3] 27)) := ⟨_, rfl⟩
  rw [← hcW]
  have hcs : W2.heap.size = w2.heap.size + 1 := by rw [hcW]; simp
  have HcB := Lib.hid (show Below w2.heap.size w2 W2 by
    rw [hcW]
    exact (Below.refl _ w2).alloc (Nat.le_refl _) _)
  have HC := Lib.hid (same_any (w := W2) A 3 3 [-1, 2, 3] rfl (by decide) (HF2.out.below HcB.out).rd (some ⟨w2.heap.size, 0, none⟩) 3 3 [-1, 2, 3] rfl (by decide) (cl_blk (W := W2) (B := W2.heap.size) (g := w2.heap.size) (n := 3) (c := 3) (t := 27) (l := [-1, 2, 3]) (by rw [hcW]; repeat (first | exact blk_here (by simp) | refine Blk.alloc ?_ _)) (by omega) rfl (by decide) (by decide)).rd)
  rw [show eqB [-1, 2, 3] [-1, 2, 3] = true by decide] at HC
  have HG2 := Lib.hid (HG.out.below HcB.out)
  clear hcW hcs HG HF2
  refine HC.out.mono ?_
  rintro e w3 ⟨rfl, hb3⟩
  have HG3 := Lib.hid (HG2.out.below hb3)
  have HB3 := Lib.hid (below_then (below_then HB2.out HcB.out HB2.out.size) hb3 (Nat.le_trans HB2.out.size HcB.out.size))
  clear hb3 HC HG2
  go_wp2_with fail
  obtain ⟨W3, hdW⟩ : ∃ W3, W3 = (w3.alloc (Obj.cells #[Value.int IntKind.i32 2, Value.int IntKind.i32 3] 27)) := ⟨_, rfl⟩
  rw [← hdW]
  have hds : W3.heap.size = w3.heap.size + 1 := by rw [hdW]; simp
  have HdB := Lib.hid (show Below w3.heap.size w3 W3 by
    rw [hdW]
    exact (Below.refl _ w3).alloc (Nat.le_refl _) _)
  have HC := Lib.hid (same_any (w := W3) A2 2 2 [2, 3] rfl (by decide) (HG3.out.below HdB.out).rd (some ⟨w3.heap.size, 0, none⟩) 2 2 [2, 3] rfl (by decide) (cl_blk (W := W3) (B := W3.heap.size) (g := w3.heap.size) (n := 2) (c := 2) (t := 27) (l := [2, 3]) (by rw [hdW]; repeat (first | exact blk_here (by simp) | refine Blk.alloc ?_ _)) (by omega) rfl (by decide) (by decide)).rd)
  rw [show eqB [2, 3] [2, 3] = true by decide] at HC
  clear hdW hds HG3
  refine HC.out.mono ?_
  rintro e w4 ⟨rfl, hb4⟩
  have HB4 := Lib.hid (below_then (below_then HB3.out HdB.out HB3.out.size) hb4 (Nat.le_trans HB3.out.size HdB.out.size))
  clear hb4 HC
  go_wp2_with fail
  obtain ⟨W4, hfW⟩ : ∃ W4, W4 = ((w4.alloc (Obj.cells #[Value.int IntKind.i32 1, Value.int IntKind.i32 (-2)] 27)).alloc (Obj.cells #[Value.bool true, Value.bool true] 4)) := ⟨_, rfl⟩
  rw [← hfW]
  have hfs : W4.heap.size = w4.heap.size + 2 := by rw [hfW]; simp
  have HfB := Lib.hid (show Below w4.heap.size w4 W4 by
    rw [hfW]
    exact ((Below.refl _ w4).alloc (Nat.le_refl _) _).alloc (by simp) _)
  have HC := Lib.hid (Value_any (w := W4) (B := W4.heap.size) (c := 2) (Nat.le_refl _) (md_blk (W := W4) (B := W4.heap.size) (g := w4.heap.size + 1) (n := 2) (t := 4) (m := [true, true]) (by rw [hfW]; repeat (first | exact blk_here (by simp) | refine Blk.alloc ?_ _)) (by omega) rfl (by decide)) ⟨some ⟨w4.heap.size, 0, none⟩, 2, 2, [1, -2]⟩ (cl_blk (W := W4) (B := W4.heap.size) (g := w4.heap.size) (n := 2) (c := 2) (t := 27) (l := [1, -2]) (by rw [hfW]; repeat (first | exact blk_here (by simp) | refine Blk.alloc ?_ _)) (by omega) rfl (by decide) (by decide)))
  rw [show valB [true, true] [1, -2] = true by decide] at HC
  clear hfW hfs
  refine HC.out.mono ?_
  rintro e w5 ⟨rfl, hb5⟩
  have HB5 := Lib.hid (below_then (below_then HB4.out HfB.out HB4.out.size) hb5 (Nat.le_trans HB4.out.size HfB.out.size))
  clear hb5 HC
  go_wp2_with fail
  obtain ⟨W5, hgW⟩ : ∃ W5, W5 = ((w5.alloc (Obj.cells #[Value.int IntKind.i32 (-1)] 27)).alloc (Obj.cells #[Value.bool true, Value.bool true] 4)) := ⟨_, rfl⟩
  rw [← hgW]
  have hgs : W5.heap.size = w5.heap.size + 2 := by rw [hgW]; simp
  have HgB := Lib.hid (show Below w5.heap.size w5 W5 by
    rw [hgW]
    exact ((Below.refl _ w5).alloc (Nat.le_refl _) _).alloc (by simp) _)
  have HC := Lib.hid (Value_any (w := W5) (B := W5.heap.size) (c := 2) (Nat.le_refl _) (md_blk (W := W5) (B := W5.heap.size) (g := w5.heap.size + 1) (n := 2) (t := 4) (m := [true, true]) (by rw [hgW]; repeat (first | exact blk_here (by simp) | refine Blk.alloc ?_ _)) (by omega) rfl (by decide)) ⟨some ⟨w5.heap.size, 0, none⟩, 1, 1, [-1]⟩ (cl_blk (W := W5) (B := W5.heap.size) (g := w5.heap.size) (n := 1) (c := 1) (t := 27) (l := [-1]) (by rw [hgW]; repeat (first | exact blk_here (by simp) | refine Blk.alloc ?_ _)) (by omega) rfl (by decide) (by decide)))
  rw [show valB [true, true] [-1] = false by decide] at HC
  clear hgW hgs
  refine HC.out.mono ?_
  rintro e w6 ⟨rfl, hb6⟩
  have HB6 := Lib.hid (below_then (below_then HB5.out HgB.out HB5.out.size) hb6 (Nat.le_trans HB5.out.size HgB.out.size))
  clear hb6 HC
  go_wp2
  go_ret
  exact ⟨rfl, HB6.out⟩
end Go.Proofs.Ytbgfijnadfeleaa.La
