/- threshinglaw03.works (printed by wip/tools/gen_works03.py). -/
import Derived.Test.YtfpohiflpemkjaaTrU
namespace Go.Proofs.Ytfpohiflpemkjaa.Tr
open Go.RowKit Go.Proofs.Ytfpohiflpemkjaa.Mem Go.Proofs.Ytfpohiflpemkjaa.Sl Go.Proofs.Ytfpohiflpemkjaa.Cl Go.Proofs.Ytfpohiflpemkjaa.Mo Go.Shelf
open Go.Proofs.Ytfpohiflpemkjaa.FnL (Pred enc_at below_then)
set_option linter.unusedVariables false

theorem FindR.get {base : Nat} {N : Int} {cs : List CV} {e : Ending} {w' : World} {m : List Bool} {ok : Bool} {er : Int} (h : FindR base N cs e w') (hf : findS N cs = (m, ok, er)) :
    ∃ A c, e = .returned (.tuple #[.slice A m.length c, .bool ok, .int .i64 er]) ∧ App.Own w' base 4 A m.length c (m.map Value.bool) := by
  unfold FindR at h
  rw [hf] at h
  exact h
set_option maxRecDepth 100000 in
theorem works_any (w : World) :
    Calls Try.prog 27 #[] w fun e w' => e = .returned (.bool true) ∧ Below w.heap.size w w' := by
  go_enter Try.func27, Try.ntmps27
  go_wp2_with fail
  obtain ⟨W, haW⟩ : ∃ W, W = (((w.alloc (Obj.cells #[Value.int IntKind.i32 1, Value.int IntKind.i32 2] 47)).alloc (Obj.cells #[Value.int IntKind.i32 (-1)] 47)).alloc (Obj.cells #[Value.slice (some { block := w.heap.size, off := 0 }) 2 2, Value.slice (some { block := w.heap.size + 1, off := 0 }) 1 1] 40)) := ⟨_, rfl⟩
  rw [← haW]
  have has : W.heap.size = w.heap.size + 3 := by rw [haW]; simp
  have HaB := Lib.hid (show Below w.heap.size w W by
    rw [haW]
    exact (((Below.refl _ w).alloc (Nat.le_refl _) _).alloc (by simp) _).alloc (by simp; omega) _)
  have HC := Lib.hid (Find_any (w := W) (Nat.le_refl _) 2 _ 2 2 _ (cls_blk (W := W) (B := W.heap.size) (g := w.heap.size + 1 + 1) (n := 2) (t := 40) (cs := [⟨some ⟨w.heap.size, 0, none⟩, 2, 2, [1, 2]⟩, ⟨some ⟨w.heap.size + 1, 0, none⟩, 1, 1, [-1]⟩]) (by rw [haW]; repeat (first | exact blk_here (by simp) | refine Blk.alloc ?_ _)) (by omega) rfl (by decide) (by intro z hz; rcases List.mem_cons.1 hz with rfl | hz; exact (cl_blk (W := W) (B := W.heap.size) (g := w.heap.size) (n := 2) (c := 2) (t := 47) (l := [1, 2]) (by rw [haW]; repeat (first | exact blk_here (by simp) | refine Blk.alloc ?_ _)) (by omega) rfl (by decide) (by decide)); rcases List.mem_cons.1 hz with rfl | hz; exact (cl_blk (W := W) (B := W.heap.size) (g := w.heap.size + 1) (n := 1) (c := 1) (t := 47) (l := [-1]) (by rw [haW]; repeat (first | exact blk_here (by simp) | refine Blk.alloc ?_ _)) (by omega) rfl (by decide) (by decide)); cases hz)))
  clear haW has
  refine HC.out.mono ?_
  rintro e w1 ⟨hF, hb1⟩
  obtain ⟨A, c, rfl, hO⟩ := hF.get (show _ = ([false, true], true, 0) by kernel_rfl)
  have HO := Lib.hid (md_own hO (by decide))
  have HB1 := Lib.hid (below_then HaB.out hb1 HaB.out.size)
  clear hF hO hb1 HC
  simp only [List.length_cons, List.length_nil, Nat.zero_add, Nat.reduceAdd] at HO ⊢
  have HC := Lib.hid (Count_any (w := w1) (Nat.le_refl _) 3 none 0 0 [] cls_nil)
  rw [show countS 3 [] = (8, 0) by kernel_rfl] at HC
  go_wp2_with fail
  refine HC.out.mono ?_
  rintro e w2 ⟨rfl, hb2⟩
  have HB2 := Lib.hid (below_then HB1.out hb2 HB1.out.size)
  have HO2 := Lib.hid (HO.out.below hb2)
  have HZ2 := Lib.hid hb2.size
  clear hb2 HC
  go_wp2_with fail
  obtain ⟨W2, hbW⟩ : ∃ W2, W2 = (((w2.alloc (Obj.cells #[Value.int IntKind.i32 1] 47)).alloc (Obj.cells #[Value.slice (some { block := w2.heap.size, off := 0 }) 1 1] 40)).alloc (Obj.cells #[Value.int IntKind.i32 (-1)] 47)) := ⟨_, rfl⟩
  rw [← hbW]
  have hbs : W2.heap.size = w2.heap.size + 3 := by rw [hbW]; simp
  have HbB := Lib.hid (show Below w2.heap.size w2 W2 by
    rw [hbW]
    exact (((Below.refl _ w2).alloc (Nat.le_refl _) _).alloc (by simp) _).alloc (by simp; omega) _)
  have HC := Lib.hid (Implies_any (w := W2) (Nat.le_refl _) 1 _ 1 1 _ (cls_blk (W := W2) (B := W2.heap.size) (g := w2.heap.size + 1) (n := 1) (t := 40) (cs := [⟨some ⟨w2.heap.size, 0, none⟩, 1, 1, [1]⟩]) (by rw [hbW]; repeat (first | exact blk_here (by simp) | refine Blk.alloc ?_ _)) (by omega) rfl (by decide) (by intro z hz; rcases List.mem_cons.1 hz with rfl | hz; exact (cl_blk (W := W2) (B := W2.heap.size) (g := w2.heap.size) (n := 1) (c := 1) (t := 47) (l := [1]) (by rw [hbW]; repeat (first | exact blk_here (by simp) | refine Blk.alloc ?_ _)) (by omega) rfl (by decide) (by decide)); cases hz)) _ (cl_blk (W := W2) (B := W2.heap.size) (g := w2.heap.size + 1 + 1) (n := 1) (c := 1) (t := 47) (l := [-1]) (by rw [hbW]; repeat (first | exact blk_here (by simp) | refine Blk.alloc ?_ _)) (by omega) rfl (by decide) (by decide)))
  clear hbW hbs
  rw [show impliesS 1 [⟨some ⟨w2.heap.size, 0, none⟩, 1, 1, [1]⟩] [-1] = (false, 0) by kernel_rfl] at HC
  refine HC.out.mono ?_
  rintro e w3 ⟨rfl, hb3⟩
  have HB3 := Lib.hid (below_then (below_then HB2.out HbB.out HB2.out.size) hb3 (Nat.le_trans HB2.out.size HbB.out.size))
  have HO3 := Lib.hid ((HO2.out.below (HbB.out.mono HZ2.out)).below (hb3.mono (Nat.le_trans HZ2.out HbB.out.size)))
  have HZ3 := Lib.hid (Nat.le_trans (Nat.le_trans HZ2.out HbB.out.size) hb3.size)
  clear hb3 HC
  go_wp2_with fail
  obtain ⟨W3, hcW⟩ : ∃ W3, W3 = (w3.alloc (Obj.cells #[Value.bool false, Value.bool true] 4)) := ⟨_, rfl⟩
  rw [← hcW]
  have hcs : W3.heap.size = w3.heap.size + 1 := by rw [hcW]; simp
  have HcB := Lib.hid (show Below w3.heap.size w3 W3 by
    rw [hcW]
    exact (Below.refl _ w3).alloc (Nat.le_refl _) _)
  have HC := Lib.hid (sameModel_any (w := W3) (B := W3.heap.size) (Nat.le_refl _) A 2 c [false, true] ((HO3.out.below (HcB.out.mono HZ3.out)).up (Nat.le_trans HZ3.out HcB.out.size)) _ 2 2 [false, true] (md_blk (W := W3) (B := W3.heap.size) (g := w3.heap.size) (n := 2) (t := 4) (m := [false, true]) (by rw [hcW]; repeat (first | exact blk_here (by simp) | refine Blk.alloc ?_ _)) (by omega) rfl (by decide)))
  rw [show (([false, true] : List Bool) == [false, true]) = true by decide] at HC
  clear hcW hcs
  refine HC.out.mono ?_
  rintro e w4 ⟨rfl, hb4⟩
  have HB4 := Lib.hid (below_then (below_then HB3.out HcB.out HB3.out.size) hb4 (Nat.le_trans HB3.out.size HcB.out.size))
  clear hb4 HC
  go_wp2
  go_ret
  exact ⟨rfl, HB4.out⟩
end Go.Proofs.Ytfpohiflpemkjaa.Tr
