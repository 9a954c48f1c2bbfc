/- The walk of CnfKnown (printed by wip/tools/gen_known01.py). -/
import Derived.Test.YtbgfijnadfeleaaLh
namespace Go.Proofs.Ytbgfijnadfeleaa.La
open Go.RowKit Go.Proofs.Ytbgfijnadfeleaa.Mem Go.Proofs.Ytbgfijnadfeleaa.Sl Go.Proofs.Ytbgfijnadfeleaa.Cl Go.Proofs.Ytbgfijnadfeleaa.App Go.Proofs.Ytbgfijnadfeleaa.Cm Go.Shelf
open Go.Proofs.Ytbgfijnadfeleaa.FnL (Pred enc_at below_then)
open Go.Proofs.Ytbgfijnadfeleaa.Lt (Later wp_region_later)
open Go.Proofs.Ytbgfijnadfeleaa.Tr (Right_any)
set_option linter.unusedVariables false

set_option maxRecDepth 100000 in
set_option maxHeartbeats 8000000 in
theorem known_any (w : World) :
    Calls Try.prog 8 #[] w fun e w' => e = .returned (.bool true) ∧ Below w.heap.size w w' := by
  have hmk : ∃ cs : Array Value, cs = (List.replicate 1048577 (Value.slice none 0 0)).toArray ∧ ∀ W, (Instr.makeSlice 39 (.int .i64 1048577) (.int .i64 1048577)).run Try.prog W = .ok (.slice (some ⟨W.heap.size, 0, none⟩) 1048577 1048577) (W.alloc (.cells cs 23)) :=
    ⟨_, rfl, fun W => by
      have := run_make_row' (P := Try.prog) _ _ (.slice none 0 0) 24 Try.underlying39 infoCl rfl .i64 .i64 1048577 (by omega) (by omega) W
      rw [madeOne] at this
      exact this⟩
  obtain ⟨big, hbig, hmk⟩ := hmk
  have HBIG := Lib.hid hbig
  have HMK := Lib.hid hmk
  clear hbig hmk
  go_enter Try.func8, Try.ntmps8
  go_wp2_with fail
  obtain ⟨W, haW⟩ : ∃ W, W = ((((((((((((((((((((w.alloc (Obj.cells #[Value.int IntKind.i32 1] 27)).alloc (Obj.cells #[Value.int IntKind.i32 (-1)] 27)).alloc (Obj.cells #[Value.int IntKind.i32 0] 27)).alloc (Obj.cells #[Value.int IntKind.i32 1, Value.int IntKind.i32 (-1)] 27)).alloc (Obj.cells #[Value.int IntKind.i32 3, Value.int IntKind.i32 (-1), Value.int IntKind.i32 3, Value.int IntKind.i32 2] 27)).alloc (Obj.cells #[Value.int IntKind.i32 1, Value.int IntKind.i32 2] 27)).alloc (Obj.cells #[Value.int IntKind.i32 2, Value.int IntKind.i32 1, Value.int IntKind.i32 2] 27)).alloc (Obj.cells #[Value.int IntKind.i32 (-1), Value.int IntKind.i32 3] 27)).alloc (Obj.cells #[Value.int IntKind.i32 (-1), Value.int IntKind.i32 (-2)] 27)).alloc (Obj.cells #[Value.int IntKind.i32 (-2147483648), Value.int IntKind.i32 2147483647] 27)).alloc (Obj.cells #[Value.int IntKind.i32 2147483647, Value.int IntKind.i32 (-2147483647)] 27)).alloc (Obj.cells #[Value.int IntKind.i32 0, Value.int IntKind.i32 0] 27)).alloc (Obj.cells #[Value.int IntKind.i32 5, Value.int IntKind.i32 4, Value.int IntKind.i32 3, Value.int IntKind.i32 2, Value.int IntKind.i32 1, Value.int IntKind.i32 (-5)] 27)).alloc (Obj.cells #[Value.slice none 0 0, Value.slice (some { block := w.heap.size, off := 0 }) 1 1, Value.slice (some { block := w.heap.size + 1, off := 0 }) 1 1, Value.slice (some { block := w.heap.size + 1 + 1, off := 0 }) 1 1, Value.slice (some { block := w.heap.size + 1 + 1 + 1, off := 0 }) 2 2, Value.slice (some { block := w.heap.size + 1 + 1 + 1 + 1, off := 0 }) 4 4, Value.slice (some { block := w.heap.size + 1 + 1 + 1 + 1 + 1, off := 0 }) 2 2, Value.slice (some { block := w.heap.size + 1 + 1 + 1 + 1 + 1 + 1, off := 0 }) 3 3, Value.slice (some { block := w.heap.size + 1 + 1 + 1 + 1 + 1 + 1 + 1, off := 0 }) 2 2, Value.slice (some { block := w.heap.size + 1 + 1 + 1 + 1 + 1 + 1 + 1 + 1, off := 0 }) 2 2, Value.slice (some { block := w.heap.size + 1 + 1 + 1 + 1 + 1 + 1 + 1 + 1 + 1, off := 0 }) 2 2, Value.slice (some { block := w.heap.size + 1 + 1 + 1 + 1 + 1 + 1 + 1 + 1 + 1 + 1, off := 0 }) 2 2, Value.slice (some { block := w.heap.size + 1 + 1 + 1 + 1 + 1 + 1 + 1 + 1 + 1 + 1 + 1, off := 0 }) 2 2, Value.slice (some { block := w.heap.size + 1 + 1 + 1 + 1 + 1 + 1 + 1 + 1 + 1 + 1 + 1 + 1, off := 0 }) 6 6] 23)).alloc (Obj.cells #[Value.bool true] 4)).alloc (Obj.cells #[Value.bool false] 4)).alloc (Obj.cells #[Value.bool true, Value.bool true] 4)).alloc (Obj.cells #[Value.bool false, Value.bool true, Value.bool true] 4)).alloc (Obj.cells #[Value.bool true, Value.bool false, Value.bool true, Value.bool false, Value.bool true] 4)).alloc (Obj.cells #[Value.slice none 0 0, Value.slice (some { block := w.heap.size + 1 + 1 + 1 + 1 + 1 + 1 + 1 + 1 + 1 + 1 + 1 + 1 + 1 + 1, off := 0 }) 1 1, Value.slice (some { block := w.heap.size + 1 + 1 + 1 + 1 + 1 + 1 + 1 + 1 + 1 + 1 + 1 + 1 + 1 + 1 + 1, off := 0 }) 1 1, Value.slice (some { block := w.heap.size + 1 + 1 + 1 + 1 + 1 + 1 + 1 + 1 + 1 + 1 + 1 + 1 + 1 + 1 + 1 + 1, off := 0 }) 2 2, Value.slice (some { block := w.heap.size + 1 + 1 + 1 + 1 + 1 + 1 + 1 + 1 + 1 + 1 + 1 + 1 + 1 + 1 + 1 + 1 + 1, off := 0 }) 3 3, Value.slice (some { block := w.heap.size + 1 + 1 + 1 + 1 + 1 + 1 + 1 + 1 + 1 + 1 + 1 + 1 + 1 + 1 + 1 + 1 + 1 + 1, off := 0 }) 5 5] 25)) := ⟨_, rfl⟩
  rw [← haW]
  have has : W.heap.size = w.heap.size + 20 := by rw [haW]; simp
  have HaB := Lib.hid (show Below w.heap.size w W by
    rw [haW]
    exact ((((((((((((((((((((Below.refl _ w).alloc (Nat.le_refl _) _).alloc (by simp) _).alloc (by simp; omega) _).alloc (by simp; omega) _).alloc (by simp; omega) _).alloc (by simp; omega) _).alloc (by simp; omega) _).alloc (by simp; omega) _).alloc (by simp; omega) _).alloc (by simp; omega) _).alloc (by simp; omega) _).alloc (by simp; omega) _).alloc (by simp; omega) _).alloc (by simp; omega) _).alloc (by simp; omega) _).alloc (by simp; omega) _).alloc (by simp; omega) _).alloc (by simp; omega) _).alloc (by simp; omega) _).alloc (by simp; omega) _)
  obtain ⟨ms, hms⟩ : ∃ ms : List CV, ms = [⟨none, 0, 0, []⟩, ⟨some ⟨w.heap.size, 0, none⟩, 1, 1, [1]⟩, ⟨some ⟨w.heap.size + 1, 0, none⟩, 1, 1, [-1]⟩, ⟨some ⟨w.heap.size + 1 + 1, 0, none⟩, 1, 1, [0]⟩, ⟨some ⟨w.heap.size + 1 + 1 + 1, 0, none⟩, 2, 2, [1, -1]⟩, ⟨some ⟨w.heap.size + 1 + 1 + 1 + 1, 0, none⟩, 4, 4, [3, -1, 3, 2]⟩, ⟨some ⟨w.heap.size + 1 + 1 + 1 + 1 + 1, 0, none⟩, 2, 2, [1, 2]⟩, ⟨some ⟨w.heap.size + 1 + 1 + 1 + 1 + 1 + 1, 0, none⟩, 3, 3, [2, 1, 2]⟩, ⟨some ⟨w.heap.size + 1 + 1 + 1 + 1 + 1 + 1 + 1, 0, none⟩, 2, 2, [-1, 3]⟩, ⟨some ⟨w.heap.size + 1 + 1 + 1 + 1 + 1 + 1 + 1 + 1, 0, none⟩, 2, 2, [-1, -2]⟩, ⟨some ⟨w.heap.size + 1 + 1 + 1 + 1 + 1 + 1 + 1 + 1 + 1, 0, none⟩, 2, 2, [-2147483648, 2147483647]⟩, ⟨some ⟨w.heap.size + 1 + 1 + 1 + 1 + 1 + 1 + 1 + 1 + 1 + 1, 0, none⟩, 2, 2, [2147483647, -2147483647]⟩, ⟨some ⟨w.heap.size + 1 + 1 + 1 + 1 + 1 + 1 + 1 + 1 + 1 + 1 + 1, 0, none⟩, 2, 2, [0, 0]⟩, ⟨some ⟨w.heap.size + 1 + 1 + 1 + 1 + 1 + 1 + 1 + 1 + 1 + 1 + 1 + 1, 0, none⟩, 6, 6, [5, 4, 3, 2, 1, -5]⟩] := ⟨_, rfl⟩
  have hml : ms.length = 14 := by rw [hms]; rfl
  have HMS := Lib.hid (show ∀ x, x ∈ ms → ClOk W.heap.size W x by
    rw [hms]
    exact (by intro z hz; rcases List.mem_cons.1 hz with rfl | hz; exact cl_nil; rcases List.mem_cons.1 hz with rfl | hz; exact (cl_blk (W := W) (B := W.heap.size) (g := w.heap.size) (n := 1) (c := 1) (t := 27) (l := [1]) (by rw [haW]; repeat (first | exact blk_here (by simp) | refine Blk.alloc ?_ _)) (by omega) rfl (by decide) (by decide)); rcases List.mem_cons.1 hz with rfl | hz; exact (cl_blk (W := W) (B := W.heap.size) (g := w.heap.size + 1) (n := 1) (c := 1) (t := 27) (l := [-1]) (by rw [haW]; repeat (first | exact blk_here (by simp) | refine Blk.alloc ?_ _)) (by omega) rfl (by decide) (by decide)); rcases List.mem_cons.1 hz with rfl | hz; exact (cl_blk (W := W) (B := W.heap.size) (g := w.heap.size + 1 + 1) (n := 1) (c := 1) (t := 27) (l := [0]) (by rw [haW]; repeat (first | exact blk_here (by simp) | refine Blk.alloc ?_ _)) (by omega) rfl (by decide) (by decide)); rcases List.mem_cons.1 hz with rfl | hz; exact (cl_blk (W := W) (B := W.heap.size) (g := w.heap.size + 1 + 1 + 1) (n := 2) (c := 2) (t := 27) (l := [1, -1]) (by rw [haW]; repeat (first | exact blk_here (by simp) | refine Blk.alloc ?_ _)) (by omega) rfl (by decide) (by decide)); rcases List.mem_cons.1 hz with rfl | hz; exact (cl_blk (W := W) (B := W.heap.size) (g := w.heap.size + 1 + 1 + 1 + 1) (n := 4) (c := 4) (t := 27) (l := [3, -1, 3, 2]) (by rw [haW]; repeat (first | exact blk_here (by simp) | refine Blk.alloc ?_ _)) (by omega) rfl (by decide) (by decide)); rcases List.mem_cons.1 hz with rfl | hz; exact (cl_blk (W := W) (B := W.heap.size) (g := w.heap.size + 1 + 1 + 1 + 1 + 1) (n := 2) (c := 2) (t := 27) (l := [1, 2]) (by rw [haW]; repeat (first | exact blk_here (by simp) | refine Blk.alloc ?_ _)) (by omega) rfl (by decide) (by decide)); rcases List.mem_cons.1 hz with rfl | hz; exact (cl_blk (W := W) (B := W.heap.size) (g := w.heap.size + 1 + 1 + 1 + 1 + 1 + 1) (n := 3) (c := 3) (t := 27) (l := [2, 1, 2]) (by rw [haW]; repeat (first | exact blk_here (by simp) | refine Blk.alloc ?_ _)) (by omega) rfl (by decide) (by decide)); rcases List.mem_cons.1 hz with rfl | hz; exact (cl_blk (W := W) (B := W.heap.size) (g := w.heap.size + 1 + 1 + 1 + 1 + 1 + 1 + 1) (n := 2) (c := 2) (t := 27) (l := [-1, 3]) (by rw [haW]; repeat (first | exact blk_here (by simp) | refine Blk.alloc ?_ _)) (by omega) rfl (by decide) (by decide)); rcases List.mem_cons.1 hz with rfl | hz; exact (cl_blk (W := W) (B := W.heap.size) (g := w.heap.size + 1 + 1 + 1 + 1 + 1 + 1 + 1 + 1) (n := 2) (c := 2) (t := 27) (l := [-1, -2]) (by rw [haW]; repeat (first | exact blk_here (by simp) | refine Blk.alloc ?_ _)) (by omega) rfl (by decide) (by decide)); rcases List.mem_cons.1 hz with rfl | hz; exact (cl_blk (W := W) (B := W.heap.size) (g := w.heap.size + 1 + 1 + 1 + 1 + 1 + 1 + 1 + 1 + 1) (n := 2) (c := 2) (t := 27) (l := [-2147483648, 2147483647]) (by rw [haW]; repeat (first | exact blk_here (by simp) | refine Blk.alloc ?_ _)) (by omega) rfl (by decide) (by decide)); rcases List.mem_cons.1 hz with rfl | hz; exact (cl_blk (W := W) (B := W.heap.size) (g := w.heap.size + 1 + 1 + 1 + 1 + 1 + 1 + 1 + 1 + 1 + 1) (n := 2) (c := 2) (t := 27) (l := [2147483647, -2147483647]) (by rw [haW]; repeat (first | exact blk_here (by simp) | refine Blk.alloc ?_ _)) (by omega) rfl (by decide) (by decide)); rcases List.mem_cons.1 hz with rfl | hz; exact (cl_blk (W := W) (B := W.heap.size) (g := w.heap.size + 1 + 1 + 1 + 1 + 1 + 1 + 1 + 1 + 1 + 1 + 1) (n := 2) (c := 2) (t := 27) (l := [0, 0]) (by rw [haW]; repeat (first | exact blk_here (by simp) | refine Blk.alloc ?_ _)) (by omega) rfl (by decide) (by decide)); rcases List.mem_cons.1 hz with rfl | hz; exact (cl_blk (W := W) (B := W.heap.size) (g := w.heap.size + 1 + 1 + 1 + 1 + 1 + 1 + 1 + 1 + 1 + 1 + 1 + 1) (n := 6) (c := 6) (t := 27) (l := [5, 4, 3, 2, 1, -5]) (by rw [haW]; repeat (first | exact blk_here (by simp) | refine Blk.alloc ?_ _)) (by omega) rfl (by decide) (by decide)); cases hz))
  have HNL := Lib.hid (show ∀ x : CV, x ∈ ms → x.A = none → x.c = 0 by
    rw [hms]
    exact (by intro z hz; rcases List.mem_cons.1 hz with rfl | hz; exact (fun _ => rfl); rcases List.mem_cons.1 hz with rfl | hz; exact (fun h => by cases h); rcases List.mem_cons.1 hz with rfl | hz; exact (fun h => by cases h); rcases List.mem_cons.1 hz with rfl | hz; exact (fun h => by cases h); rcases List.mem_cons.1 hz with rfl | hz; exact (fun h => by cases h); rcases List.mem_cons.1 hz with rfl | hz; exact (fun h => by cases h); rcases List.mem_cons.1 hz with rfl | hz; exact (fun h => by cases h); rcases List.mem_cons.1 hz with rfl | hz; exact (fun h => by cases h); rcases List.mem_cons.1 hz with rfl | hz; exact (fun h => by cases h); rcases List.mem_cons.1 hz with rfl | hz; exact (fun h => by cases h); rcases List.mem_cons.1 hz with rfl | hz; exact (fun h => by cases h); rcases List.mem_cons.1 hz with rfl | hz; exact (fun h => by cases h); rcases List.mem_cons.1 hz with rfl | hz; exact (fun h => by cases h); rcases List.mem_cons.1 hz with rfl | hz; exact (fun h => by cases h); cases hz))
  have HMT := Lib.hid (show Blk W (w.heap.size + 1 + 1 + 1 + 1 + 1 + 1 + 1 + 1 + 1 + 1 + 1 + 1 + 1) 23 (ms.map CV.v).toArray by rw [hms]; exact (by rw [haW]; repeat (first | exact blk_here (by simp) | refine Blk.alloc ?_ _)))
  obtain ⟨mds, hmds⟩ : ∃ mds : List MV, mds = [⟨none, 0, []⟩, ⟨some ⟨w.heap.size + 1 + 1 + 1 + 1 + 1 + 1 + 1 + 1 + 1 + 1 + 1 + 1 + 1 + 1, 0, none⟩, 1, [true]⟩, ⟨some ⟨w.heap.size + 1 + 1 + 1 + 1 + 1 + 1 + 1 + 1 + 1 + 1 + 1 + 1 + 1 + 1 + 1, 0, none⟩, 1, [false]⟩, ⟨some ⟨w.heap.size + 1 + 1 + 1 + 1 + 1 + 1 + 1 + 1 + 1 + 1 + 1 + 1 + 1 + 1 + 1 + 1, 0, none⟩, 2, [true, true]⟩, ⟨some ⟨w.heap.size + 1 + 1 + 1 + 1 + 1 + 1 + 1 + 1 + 1 + 1 + 1 + 1 + 1 + 1 + 1 + 1 + 1, 0, none⟩, 3, [false, true, true]⟩, ⟨some ⟨w.heap.size + 1 + 1 + 1 + 1 + 1 + 1 + 1 + 1 + 1 + 1 + 1 + 1 + 1 + 1 + 1 + 1 + 1 + 1, 0, none⟩, 5, [true, false, true, false, true]⟩] := ⟨_, rfl⟩
  have hmdl : mds.length = 6 := by rw [hmds]; rfl
  have HMD := Lib.hid (show ∀ x : MV, x ∈ mds → MdOk W.heap.size W x.A x.n x.m by
    rw [hmds]
    exact (by intro z hz; rcases List.mem_cons.1 hz with rfl | hz; exact md_nil; rcases List.mem_cons.1 hz with rfl | hz; exact (md_blk (W := W) (B := W.heap.size) (g := w.heap.size + 1 + 1 + 1 + 1 + 1 + 1 + 1 + 1 + 1 + 1 + 1 + 1 + 1 + 1) (n := 1) (t := 4) (m := [true]) (by rw [haW]; repeat (first | exact blk_here (by simp) | refine Blk.alloc ?_ _)) (by omega) rfl (by decide)); rcases List.mem_cons.1 hz with rfl | hz; exact (md_blk (W := W) (B := W.heap.size) (g := w.heap.size + 1 + 1 + 1 + 1 + 1 + 1 + 1 + 1 + 1 + 1 + 1 + 1 + 1 + 1 + 1) (n := 1) (t := 4) (m := [false]) (by rw [haW]; repeat (first | exact blk_here (by simp) | refine Blk.alloc ?_ _)) (by omega) rfl (by decide)); rcases List.mem_cons.1 hz with rfl | hz; exact (md_blk (W := W) (B := W.heap.size) (g := w.heap.size + 1 + 1 + 1 + 1 + 1 + 1 + 1 + 1 + 1 + 1 + 1 + 1 + 1 + 1 + 1 + 1) (n := 2) (t := 4) (m := [true, true]) (by rw [haW]; repeat (first | exact blk_here (by simp) | refine Blk.alloc ?_ _)) (by omega) rfl (by decide)); rcases List.mem_cons.1 hz with rfl | hz; exact (md_blk (W := W) (B := W.heap.size) (g := w.heap.size + 1 + 1 + 1 + 1 + 1 + 1 + 1 + 1 + 1 + 1 + 1 + 1 + 1 + 1 + 1 + 1 + 1) (n := 3) (t := 4) (m := [false, true, true]) (by rw [haW]; repeat (first | exact blk_here (by simp) | refine Blk.alloc ?_ _)) (by omega) rfl (by decide)); rcases List.mem_cons.1 hz with rfl | hz; exact (md_blk (W := W) (B := W.heap.size) (g := w.heap.size + 1 + 1 + 1 + 1 + 1 + 1 + 1 + 1 + 1 + 1 + 1 + 1 + 1 + 1 + 1 + 1 + 1 + 1) (n := 5) (t := 4) (m := [true, false, true, false, true]) (by rw [haW]; repeat (first | exact blk_here (by simp) | refine Blk.alloc ?_ _)) (by omega) rfl (by decide)); cases hz))
  have HDT := Lib.hid (show Blk W (w.heap.size + 1 + 1 + 1 + 1 + 1 + 1 + 1 + 1 + 1 + 1 + 1 + 1 + 1 + 1 + 1 + 1 + 1 + 1 + 1) 25 (mds.map MV.v).toArray by rw [hmds]; exact (by rw [haW]; repeat (first | exact blk_here (by simp) | refine Blk.alloc ?_ _)))
  have HMN := Lib.hid hml
  have HDN := Lib.hid hmdl
  clear haW hml hmdl hms hmds has
  generalize hgm : w.heap.size + 1 + 1 + 1 + 1 + 1 + 1 + 1 + 1 + 1 + 1 + 1 + 1 + 1 + 1 + 1 + 1 + 1 + 1 + 1 = gm at *
  generalize hgl : w.heap.size + 1 + 1 + 1 + 1 + 1 + 1 + 1 + 1 + 1 + 1 + 1 + 1 + 1 = gl at *
  clear hgm hgl
  have HCL := Lib.hid (show ∀ i, i < 14 → ∃ x : CV, (∀ W', Below W.heap.size W W' → W'.cell? ⟨gl, i, none⟩ = some x.v) ∧ ClOk W.heap.size W x ∧ (x.A = none → x.c = 0) from fun i hi => by
    have hil : i < ms.length := by rw [HMN.out]; exact hi
    exact ⟨ms[i]'hil, fun W' hb => by rw [(HMT.out.below hb).cell i]; simp [hil], HMS.out _ (List.getElem_mem hil), HNL.out _ (List.getElem_mem hil)⟩)
  have HML := Lib.hid (show ∀ i, i < 6 → ∃ x : MV, (∀ W', Below W.heap.size W W' → W'.cell? ⟨gm, i, none⟩ = some x.v) ∧ MdOk W.heap.size W x.A x.n x.m from fun i hi => by
    have hil : i < mds.length := by rw [HDN.out]; exact hi
    exact ⟨mds[i]'hil, fun W' hb => by rw [(HDT.out.below hb).cell i]; simp [hil], HMD.out _ (List.getElem_mem hil)⟩)
  have HCS := Lib.hid (show ClsOk W.heap.size W (some ⟨gl, 0, none⟩) 14 ms from cls_blk HMT.out HMT.out.lt HMN.out.symm (by decide) HMS.out)
  clear HMT HDT HMS HMD HNL
  go_loopw [3] (fun x wr => ∃ i : Nat, i ≤ 14 ∧ x = .int .i64 i ∧ Below W.heap.size W wr) (fun x _ => 14 - (intOf x).toNat)
  case atStart => exact ⟨0, Nat.zero_le _, rfl, Below.refl _ _⟩
  case round =>
    obtain ⟨i, hi, rfl, hb⟩ := hrel
    have HB0 := Lib.hid hb
    clear hb
    by_cases hlt : i < 14
    · have hlt' : (i : Int) < 14 := by omega
      have hnn' : ¬ (i : Int) < 0 := by omega
      obtain ⟨x, hx1, hx2, hx3⟩ := HCL.out i hlt
      have HX1 := Lib.hid hx1
      have HX2 := Lib.hid hx2
      have HX3 := Lib.hid hx3
      obtain ⟨xa, xn, xc, xl⟩ := x
      dsimp only [CV.v] at HX1
      clear hx1 hx2 hx3
      rename World => w0
      go_wp2_with fail
      go_loopw [4] (fun y wr => ∃ k : Nat, k ≤ 14 ∧ y = .int .i64 k ∧ Below W.heap.size W wr) (fun y _ => 14 - (intOf y).toNat)
      case atStart => exact ⟨0, Nat.zero_le _, rfl, HB0.out⟩
      case round =>
        clear HB0
        obtain ⟨k, hk, rfl, hb⟩ := hrel
        have HB0 := Lib.hid hb
        clear hb
        by_cases hltk : k < 14
        · have hltk' : (k : Int) < 14 := by omega
          obtain ⟨y, hy1, hy2, hy3⟩ := HCL.out k hltk
          have HY1 := Lib.hid hy1
          have HY2 := Lib.hid hy2
          have HY3 := Lib.hid hy3
          obtain ⟨ya, yn, yc, yl⟩ := y
          dsimp only [CV.v] at HY1
          have hmr : (i + k) % 6 < 6 := Nat.mod_lt _ (by decide)
          obtain ⟨z, hz1, hz2⟩ := HML.out ((i + k) % 6) hmr
          have HZ1 := Lib.hid hz1
          have HZ2 := Lib.hid hz2
          obtain ⟨za, zn, zl⟩ := z
          dsimp only [MV.v] at HZ1
          clear hy1 hy2 hy3 hz1 hz2
          rename World => w1
          go_wp2_with fail
          obtain ⟨W1, hbW⟩ : ∃ W1, W1 = (w1.alloc (Obj.cells #[Value.int IntKind.i64 (-1), Value.int IntKind.i64 0, Value.int IntKind.i64 1, Value.int IntKind.i64 2, Value.int IntKind.i64 5, Value.int IntKind.i64 2147483647, Value.int IntKind.i64 2147483648, Value.int IntKind.i64 9223372036854775807, Value.int IntKind.i64 (-9223372036854775808)] 3)) := ⟨_, rfl⟩
          rw [← hbW]
          have hbs : W1.heap.size = w1.heap.size + 1 := by rw [hbW]; simp
          have HbB := Lib.hid (show Below w1.heap.size w1 W1 by
            rw [hbW]
            exact (Below.refl _ w1).alloc (Nat.le_refl _) _)
          have HB1 := Lib.hid (below_then HB0.out HbB.out HB0.out.size)
          have HQ := Lib.hid (show Blk W1 w1.heap.size 3 #[Value.int IntKind.i64 (-1), Value.int IntKind.i64 0, Value.int IntKind.i64 1, Value.int IntKind.i64 2, Value.int IntKind.i64 5, Value.int IntKind.i64 2147483647, Value.int IntKind.i64 2147483648, Value.int IntKind.i64 9223372036854775807, Value.int IntKind.i64 (-9223372036854775808)] from (by rw [hbW]; repeat (first | exact blk_here (by simp) | refine Blk.alloc ?_ _)))
          clear hbW hbs HbB
          generalize hgq : w1.heap.size = gq at *
          clear hgq
          go_loopw [45] (fun y wr => ∃ j : Nat, j ≤ 9 ∧ y = .int .i64 j ∧ Below W.heap.size W wr ∧ Blk wr gq 3 #[Value.int IntKind.i64 (-1), Value.int IntKind.i64 0, Value.int IntKind.i64 1, Value.int IntKind.i64 2, Value.int IntKind.i64 5, Value.int IntKind.i64 2147483647, Value.int IntKind.i64 2147483648, Value.int IntKind.i64 9223372036854775807, Value.int IntKind.i64 (-9223372036854775808)]) (fun y _ => 9 - (intOf y).toNat)
          case atStart => exact ⟨0, Nat.zero_le _, rfl, HB1.out, HQ.out⟩
          case round =>
            clear HB1 HQ
            obtain ⟨j, hj, rfl, hb, hq⟩ := hrel
            have HB1 := Lib.hid hb
            have HQ := Lib.hid hq
            clear hb hq
            by_cases hltj : j < 9
            · have hltj' : (j : Int) < 9 := by omega
              obtain ⟨v, hv⟩ : ∃ v : Int, (#[Value.int IntKind.i64 (-1), Value.int IntKind.i64 0, Value.int IntKind.i64 1, Value.int IntKind.i64 2, Value.int IntKind.i64 5, Value.int IntKind.i64 2147483647, Value.int IntKind.i64 2147483648, Value.int IntKind.i64 9223372036854775807, Value.int IntKind.i64 (-9223372036854775808)])[j]? = some (Value.int IntKind.i64 v) := by
                rcases (show j = 0 ∨ j = 1 ∨ j = 2 ∨ j = 3 ∨ j = 4 ∨ j = 5 ∨ j = 6 ∨ j = 7 ∨ j = 8 by omega) with rfl | rfl | rfl | rfl | rfl | rfl | rfl | rfl | rfl <;> exact ⟨_, rfl⟩
              rename World => w2
              have hc : w2.cell? ⟨gq, j, none⟩ = some (Value.int IntKind.i64 v) := (HQ.out.cell j).trans hv
              clear hv
              go_upto_region 12 with (fail)
              have L1 : ∀ p : Later w2, p.w'.cell? ⟨gl, i, none⟩ = some (.slice xa xn xc) := fun p => HX1.out _ (below_then HB1.out p.h HB1.out.size)
              have L2 : ∀ p : Later w2, p.w'.cell? ⟨gl, k, none⟩ = some (.slice ya yn yc) := fun p => HY1.out _ (below_then HB1.out p.h HB1.out.size)
              have L3 : ∀ p : Later w2, p.w'.cell? ⟨gm, (i + k) % 6, none⟩ = some (.slice za zn zn) := fun p => HZ1.out _ (below_then HB1.out p.h HB1.out.size)
              have s1 : IntKind.i64.wrap ((i : Int) + (k : Int)) = ((i + k : Nat) : Int) := by rw [IntWalk.i64_in _ (by omega)]; omega
              have s2 : ((i + k : Nat) : Int).tmod 6 = (((i + k) % 6 : Nat) : Int) := by rw [Int.tmod_eq_emod_of_nonneg (by omega)]; omega
              obtain ⟨sm, hsm⟩ : ∃ sm, (i + k) % 6 = sm := ⟨_, rfl⟩
              rw [hsm] at L3 s2 hmr
              have s3 : IntKind.i64.wrap (sm : Int) = sm := IntWalk.i64_in _ (by omega)
              have s4 : (sm : Int) < 6 := by omega
              obtain ⟨ik, hik⟩ : ∃ ik : Nat, i + k = ik := ⟨_, rfl⟩
              rw [hik] at s1 s2
              clear hsm hik
              have M1 := Lib.hid (Later.meet (w := w2) fun W' hb => clauses_any (w := W') (B := W.heap.size) (Nat.le_trans HB1.out.size hb.size) ⟨xa, xn, xc, xl⟩ (HX2.out.below (below_then HB1.out hb HB1.out.size)) HX3.out ⟨ya, yn, yc, yl⟩ (HY2.out.below (below_then HB1.out hb HB1.out.size)) HY3.out v)
              have M2 := Lib.hid (Later.meet (w := w2) fun W' hb => resolves_any (w := W') (B := W.heap.size) (Nat.le_trans HB1.out.size hb.size) ⟨xa, xn, xc, xl⟩ (HX2.out.below (below_then HB1.out hb HB1.out.size)) ⟨ya, yn, yc, yl⟩ (HY2.out.below (below_then HB1.out hb HB1.out.size)) v za zn zn zl (HZ2.out.below (below_then HB1.out hb HB1.out.size)))
              dsimp only [CV.v] at M1 M2
              have HBQ := Lib.hid (fun W' (hb : Below w2.heap.size w2 W') => below_then HB1.out hb HB1.out.size)
              have HQQ := Lib.hid (fun W' (hb : Below w2.heap.size w2 W') => HQ.out.below hb)
              refine wp_region_later (by kernel_rfl) (by kernel_rfl) ?_
              repeat (quiet_step (first
                | (go_at_call 4; exact M1.out _)
                | (go_at_call 6; exact M2.out _)))
              refine wpQuiet_nil ?_
              intro wq hw'
              obtain ⟨p, hp⟩ := hw'
              have hq : Below w2.heap.size w2 wq := hp ▸ p.h
              have HW3 := Lib.hid (HBQ.out wq hq)
              have HQ3 := Lib.hid (HQQ.out wq hq)
              clear L1 L2 L3 hq hp p hc s1 s2 s3 s4 M1 M2
              go_wp2
              go_roundw
              case rel => exact ⟨j + 1, by omega, by go_num, HW3.out, HQ3.out⟩
              case measure => simp [intOf]; omega
            · have hltj' : ¬ (j : Int) < 9 := by omega
              go_wp2
              go_roundw
              case rel => exact ⟨k + 1, by omega, by go_num, HB1.out⟩
              case measure => simp [intOf]; omega
        · have hltk' : ¬ (k : Int) < 14 := by omega
          rename World => w1
          go_wp2_with fail
          clear hltk hltk' hk
          go_loopw [7] (fun y wr => ∃ k : Nat, k ≤ 6 ∧ y = .int .i64 k ∧ Below W.heap.size W wr) (fun y _ => 6 - (intOf y).toNat)
          case atStart => exact ⟨0, Nat.zero_le _, rfl, HB0.out⟩
          case round =>
            clear HB0
            obtain ⟨k, hk, rfl, hb⟩ := hrel
            have HB0 := Lib.hid hb
            clear hb
            by_cases hltk : k < 6
            · have hltk' : (k : Int) < 6 := by omega
              obtain ⟨z, hz1, hz2⟩ := HML.out k hltk
              have HZ1 := Lib.hid hz1
              have HZ2 := Lib.hid hz2
              obtain ⟨za, zn, zl⟩ := z
              dsimp only [MV.v] at HZ1
              clear hz1 hz2
              rename World => w2
              go_upto_region 18 with (fail)
              have L1 : ∀ p : Later w2, p.w'.cell? ⟨gl, i, none⟩ = some (.slice xa xn xc) := fun p => HX1.out _ (below_then HB0.out p.h HB0.out.size)
              have L3 : ∀ p : Later w2, p.w'.cell? ⟨gm, k, none⟩ = some (.slice za zn zn) := fun p => HZ1.out _ (below_then HB0.out p.h HB0.out.size)
              have M1 := Lib.hid (Later.meet (w := w2) fun W' hb => values_any (w := W') (B := W.heap.size) (Nat.le_trans HB0.out.size hb.size) ⟨xa, xn, xc, xl⟩ (HX2.out.below (below_then HB0.out hb HB0.out.size)) za zn zn zl (HZ2.out.below (below_then HB0.out hb HB0.out.size)))
              have M2 := Lib.hid (Later.meet (w := w2) fun W' hb => normal_any (w := W') (B := W.heap.size) (Nat.le_trans HB0.out.size hb.size) ⟨xa, xn, xc, xl⟩ (HX2.out.below (below_then HB0.out hb HB0.out.size)) za zn zn zl (HZ2.out.below (below_then HB0.out hb HB0.out.size)))
              dsimp only [CV.v] at M1 M2
              have HBQ := Lib.hid (fun W' (hb : Below w2.heap.size w2 W') => below_then HB0.out hb HB0.out.size)
              refine wp_region_later (by kernel_rfl) (by kernel_rfl) ?_
              repeat (quiet_step (first
                | (go_at_call 3; exact M1.out _)
                | (go_at_call 5; exact M2.out _)))
              refine wpQuiet_nil ?_
              intro wq hw'
              obtain ⟨p, hp⟩ := hw'
              have hq : Below w2.heap.size w2 wq := hp ▸ p.h
              have HB1 := Lib.hid (HBQ.out wq hq)
              clear L1 L3 hq hp p M1 M2
              go_wp2_with fail
              obtain ⟨W1, hbW⟩ : ∃ W1, W1 = (wq.alloc (Obj.cells #[Value.int IntKind.i64 (-1), Value.int IntKind.i64 0, Value.int IntKind.i64 1, Value.int IntKind.i64 2, Value.int IntKind.i64 3, Value.int IntKind.i64 5, Value.int IntKind.i64 1048576, Value.int IntKind.i64 1048577] 3)) := ⟨_, rfl⟩
              rw [← hbW]
              have hbs : W1.heap.size = wq.heap.size + 1 := by rw [hbW]; simp
              have HbB := Lib.hid (show Below wq.heap.size wq W1 by
                rw [hbW]
                exact (Below.refl _ wq).alloc (Nat.le_refl _) _)
              have HB2 := Lib.hid (below_then HB1.out HbB.out HB1.out.size)
              have HQ := Lib.hid (show Blk W1 wq.heap.size 3 #[Value.int IntKind.i64 (-1), Value.int IntKind.i64 0, Value.int IntKind.i64 1, Value.int IntKind.i64 2, Value.int IntKind.i64 3, Value.int IntKind.i64 5, Value.int IntKind.i64 1048576, Value.int IntKind.i64 1048577] from (by rw [hbW]; repeat (first | exact blk_here (by simp) | refine Blk.alloc ?_ _)))
              clear hbW hbs HbB
              generalize hgq : wq.heap.size = gq at *
              clear hgq
              go_loopw [109] (fun y wr => ∃ j : Nat, j ≤ 8 ∧ y = .int .i64 j ∧ Below W.heap.size W wr ∧ Blk wr gq 3 #[Value.int IntKind.i64 (-1), Value.int IntKind.i64 0, Value.int IntKind.i64 1, Value.int IntKind.i64 2, Value.int IntKind.i64 3, Value.int IntKind.i64 5, Value.int IntKind.i64 1048576, Value.int IntKind.i64 1048577]) (fun y _ => 8 - (intOf y).toNat)
              case atStart => exact ⟨0, Nat.zero_le _, rfl, HB2.out, HQ.out⟩
              case round =>
                clear HB2 HQ
                obtain ⟨j, hj, rfl, hb, hq⟩ := hrel
                have HB2 := Lib.hid hb
                have HQ := Lib.hid hq
                clear hb hq
                by_cases hltj : j < 8
                · have hltj' : (j : Int) < 8 := by omega
                  obtain ⟨v, hv⟩ : ∃ v : Int, (#[Value.int IntKind.i64 (-1), Value.int IntKind.i64 0, Value.int IntKind.i64 1, Value.int IntKind.i64 2, Value.int IntKind.i64 3, Value.int IntKind.i64 5, Value.int IntKind.i64 1048576, Value.int IntKind.i64 1048577])[j]? = some (Value.int IntKind.i64 v) := by
                    rcases (show j = 0 ∨ j = 1 ∨ j = 2 ∨ j = 3 ∨ j = 4 ∨ j = 5 ∨ j = 6 ∨ j = 7 by omega) with rfl | rfl | rfl | rfl | rfl | rfl | rfl | rfl <;> exact ⟨_, rfl⟩
                  rename World => w4
                  have hc : w4.cell? ⟨gq, j, none⟩ = some (Value.int IntKind.i64 v) := (HQ.out.cell j).trans hv
                  clear hv
                  go_upto_region 23 with (fail)
                  have KEEP := Lib.hid (fun W' (hb : Below w4.heap.size w4 W') => (show W'.cell? ⟨gl, i, none⟩ = some (.slice xa xn xc) ∧ W'.cell? ⟨gm, k, none⟩ = some (.slice za zn zn) from ⟨HX1.out _ (below_then HB2.out hb HB2.out.size), HZ1.out _ (below_then HB2.out hb HB2.out.size)⟩))
                  have BD := Lib.hid (show Below w4.heap.size w4 w4.drew from (Below.refl _ _).drew)
                  have R1 := Lib.hid (rights_any (w := w4.drew) (B := W.heap.size) (Nat.le_trans HB2.out.size BD.out.size) v (some ⟨gl, 0, none⟩) i 14 (ms.take i) (cls_take (HCS.out.below (below_then HB2.out BD.out HB2.out.size)) (by omega)) za zn zn zl (HZ2.out.below (below_then HB2.out BD.out HB2.out.size)))
                  have R2 := Lib.hid (fun W' (hb : Below w4.heap.size w4 W') => rights_any (w := W'.alloc (.cells #[.slice xa xn xc] 23)) (B := (W'.alloc (.cells #[.slice xa xn xc] 23)).heap.size) (Nat.le_refl _) v (some ⟨W'.heap.size, 0, none⟩) 1 1 [⟨xa, xn, xc, xl⟩]
                    (cls_one ⟨xa, xn, xc, xl⟩ _ ((HX2.out.below (below_then HB2.out hb HB2.out.size)).up (Nat.le_trans HB2.out.size hb.size))) za zn zn zl ((HZ2.out.below ((below_then HB2.out hb HB2.out.size).alloc (Nat.le_trans HB2.out.size hb.size) _)).up (by simp; have := HB2.out.size; have := hb.size; omega)))
                  have KA := Lib.hid (fun W' (hb : Below w4.heap.size w4 W') => (show (W'.alloc (.cells #[.slice xa xn xc] 23)).cell? ⟨gl, i, none⟩ = some (.slice xa xn xc) ∧ (W'.alloc (.cells #[.slice xa xn xc] 23)).cell? ⟨gm, k, none⟩ = some (.slice za zn zn) from KEEP.out _ (hb.alloc hb.size _)))
                  have HBQ := Lib.hid (fun W' W'' (hb : Below w4.heap.size w4 W') (hb2 : Below (W'.alloc (.cells #[.slice xa xn xc] 23)).heap.size (W'.alloc (.cells #[.slice xa xn xc] 23)) W'') => (show Below w4.heap.size w4 W'' from (hb.alloc hb.size _).trans (hb2.mono (by simp; have := hb.size; omega))))
                  have HB9 := Lib.hid (fun W' (hb : Below w4.heap.size w4 W') => (⟨below_then HB2.out hb HB2.out.size, HQ.out.below hb⟩ : Below W.heap.size W W' ∧ Blk W' gq 3 #[Value.int IntKind.i64 (-1), Value.int IntKind.i64 0, Value.int IntKind.i64 1, Value.int IntKind.i64 2, Value.int IntKind.i64 3, Value.int IntKind.i64 5, Value.int IntKind.i64 1048576, Value.int IntKind.i64 1048577]))
                  obtain ⟨c0, c1⟩ := KEEP.out w4.drew BD.out
                  have hs1 : (0 : Int) ≤ (i : Int) := Int.natCast_nonneg i
                  have hs2 : (i : Int) ≤ 14 := by omega
                  have hs3 : i ≤ 14 := by omega
                  have hs4 : (i : Int) ≤ ((14 : Nat) : Int) := by omega
                  go_region_held3 (fun w' => w'.cell? ⟨gl, i, none⟩ = some (.slice xa xn xc) ∧ w'.cell? ⟨gm, k, none⟩ = some (.slice za zn zn)) (first | exact ⟨c0, c1⟩ | exact k1 | exact k2 | exact k3)
                    (first
                      | (go_at_call_of 7 (Value.agg #[Value.int IntKind.i64 v, Value.slice (some ⟨gl, 0, none⟩) i 14])
                         refine R1.out.mono ?_
                         rintro e w5 ⟨rfl, hb5⟩
                         have HB5 := Lib.hid (below_then BD.out hb5 BD.out.size)
                         have k1 := KEEP.out w5 HB5.out
                         have k2 := KA.out w5 HB5.out
                         clear hb5)
                      | (go_at_call_of 7 (Value.slice za zn zn)
                         refine (R2.out _ HB5.out).mono ?_
                         rintro e w6 ⟨rfl, hb6⟩
                         have HB6 := Lib.hid (HBQ.out _ w6 HB5.out hb6)
                         have k3 := KEEP.out w6 HB6.out
                         clear hb6))
                  all_goals
                    obtain ⟨h1, h2⟩ := HB9.out w6 HB6.out
                    have HW3 := Lib.hid h1
                    have HQ3 := Lib.hid h2
                    clear h1 h2 c0 c1 hc
                    go_wp2
                    go_roundw
                    case rel => exact ⟨j + 1, by omega, by go_num, HW3.out, HQ3.out⟩
                    case measure => simp [intOf]; omega
                · have hltj' : ¬ (j : Int) < 8 := by omega
                  go_wp2
                  go_roundw
                  case rel => exact ⟨k + 1, by omega, by go_num, HB2.out⟩
                  case measure => simp [intOf]; omega
            · have hltk' : ¬ (k : Int) < 6 := by omega
              go_wp2
              go_roundw
              case rel => exact ⟨i + 1, by omega, by go_num, HB0.out⟩
              case measure => simp [intOf]; omega
    · have hlt' : ¬ (i : Int) < 14 := by omega
      rename World => w0
      have HMK0 := HMK.out
      go_upto_region 27 with (fail)
      obtain ⟨W5, hW5⟩ : ∃ W5, W5 = w0.alloc (.cells big 23) := ⟨_, rfl⟩
      rw [← hW5]
      have HB5 := Lib.hid (show Below W.heap.size W W5 from hW5 ▸ HB0.out.alloc HB0.out.size _)
      have HBL := Lib.hid (show Blk W5 w0.heap.size 23 (List.replicate 1048577 (Value.slice none 0 0)).toArray by rw [hW5, HBIG.out]; exact Blk.new _ _ _)
      have HB6 := Lib.hid (show Below w.heap.size w W5 from below_then HaB.out HB5.out HaB.out.size)
      clear hW5 HMK0 HMK HBIG
      generalize hgb : w0.heap.size = gb at *
      clear hgb
      have HC := Lib.hid (Right_any (w := W5) (B := W5.heap.size) (Nat.le_refl _) 0 (some ⟨gb, 0, none⟩) 1048577 1048577 (List.replicate 1048577 nilCV) (nil_cls HBL.out (by omega) (by omega)))
      rw [right_nil, if_pos (by omega)] at HC
      go_wp2_with fail
      refine HC.out.mono ?_
      rintro e w6 ⟨rfl, hb6⟩
      have HB7 := Lib.hid (below_then HB6.out hb6 HB6.out.size)
      have HBL6 := Lib.hid (HBL.out.below hb6)
      clear hb6 HC
      have HC := Lib.hid (Right_any (w := w6) (B := w6.heap.size) (Nat.le_refl _) 0 (some ⟨gb, 1, none⟩) 1048576 1048576 (List.replicate 1048576 nilCV) (nil_cls HBL6.out (by omega) (by omega)))
      rw [right_nil, if_neg (by omega)] at HC
      go_wp2_with fail
      refine HC.out.mono ?_
      rintro e w7 ⟨rfl, hb7⟩
      have HB8 := Lib.hid (below_then HB7.out hb7 HB7.out.size)
      clear hb7 HC
      have HC := Lib.hid (works_any w7)
      go_wp2_with fail
      refine HC.out.mono ?_
      rintro e w8 ⟨rfl, hb8⟩
      have HB9 := Lib.hid (below_then HB8.out hb8 HB8.out.size)
      clear hb8 HC
      go_wp2
      go_ret
      exact ⟨rfl, HB9.out⟩
end Go.Proofs.Ytbgfijnadfeleaa.La
