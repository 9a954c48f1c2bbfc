/- The walk of TruthKnown (printed by wip/tools/gen_known03.py). -/
import Derived.Test.YtfpohiflpemkjaaTk
namespace Go.Proofs.Ytfpohiflpemkjaa.Tr
open Go.RowKit Go.Proofs.Ytfpohiflpemkjaa.Mem Go.Proofs.Ytfpohiflpemkjaa.Sl Go.Proofs.Ytfpohiflpemkjaa.Cl Go.Proofs.Ytfpohiflpemkjaa.Mo Go.Shelf
open Go.Proofs.Ytfpohiflpemkjaa.FnL (Pred enc_at below_then)
set_option linter.unusedVariables false

set_option maxRecDepth 100000 in
set_option maxHeartbeats 8000000 in
theorem known_any (w : World) :
    Calls Try.prog 9 #[] w fun e w' => e = .returned (.bool true) ∧ Below w.heap.size w w' := by
  go_enter Try.func9, Try.ntmps9
  go_wp2_with fail
  go_loopw [1] (fun i wr => ∃ k : Nat, k ≤ 13 ∧ i = .int .i64 k ∧ Below w.heap.size w wr) (fun i _ => 13 - (intOf i).toNat)
  case atStart => exact ⟨0, Nat.zero_le _, rfl, Below.refl _ _⟩
  case round =>
    obtain ⟨k, hk, rfl, hb⟩ := hrel
    have HB0 := Lib.hid hb
    clear hb
    by_cases hlt : k ≤ 12
    · have hlt' : (k : Int) ≤ 12 := by omega
      have HC := Lib.hid (finds_any (w := wr) (Nat.le_refl _) k none 0 0 [] cls_nil)
      go_wp2_with fail
      refine HC.out.mono ?_
      rintro e w1 ⟨rfl, hb1⟩
      have HB1 := Lib.hid (below_then HB0.out hb1 HB0.out.size)
      clear hb1 HC
      go_wp2_with fail
      obtain ⟨W2, haW⟩ : ∃ W2, W2 = ((w1.alloc (Obj.cells #[] 47)).alloc (Obj.cells #[Value.slice (some { block := w1.heap.size, off := 0 }) 0 0] 40)) := ⟨_, rfl⟩
      rw [← haW]
      have has : W2.heap.size = w1.heap.size + 2 := by rw [haW]; simp
      have HaB := Lib.hid (show Below w1.heap.size w1 W2 by
        rw [haW]
        exact ((Below.refl _ w1).alloc (Nat.le_refl _) _).alloc (by simp) _)
      have HB2 := Lib.hid (below_then HB1.out HaB.out HB1.out.size)
      have HC := Lib.hid (finds_any (w := W2) (Nat.le_refl _) k _ 1 1 _ (cls_blk (W := W2) (B := W2.heap.size) (g := w1.heap.size + 1) (n := 1) (t := 40) (cs := [⟨some ⟨w1.heap.size, 0, none⟩, 0, 0, []⟩]) (by rw [haW]; repeat (first | exact blk_here (by simp) | refine Blk.alloc ?_ _)) (by omega) rfl (by decide) (by intro z hz; rcases List.mem_cons.1 hz with rfl | hz; exact (cl_blk (W := W2) (B := W2.heap.size) (g := w1.heap.size) (n := 0) (c := 0) (t := 47) (l := []) (by rw [haW]; repeat (first | exact blk_here (by simp) | refine Blk.alloc ?_ _)) (by omega) rfl (by decide) (by decide)); cases hz)))
      clear haW has HaB
      refine HC.out.mono ?_
      rintro e w3 ⟨rfl, hb3⟩
      have HB3 := Lib.hid (below_then HB2.out hb3 HB2.out.size)
      clear hb3 HC
      go_wp2
      go_roundw
      case rel => exact ⟨k + 1, by omega, by go_num, HB3.out⟩
      case measure => simp [intOf]; omega
    · have hlt' : ¬ (k : Int) ≤ 12 := by omega
      rename World => wa
      go_wp2_with fail
      clear hlt hlt' hk
      obtain ⟨Wa, hbW⟩ : ∃ Wa, Wa = (wa.alloc (Obj.cells #[Value.int IntKind.i64 (-1), Value.int IntKind.i64 17, Value.int IntKind.i64 1048576, Value.int IntKind.i64 1048577] 3)) := ⟨_, rfl⟩
      rw [← hbW]
      have hbs : Wa.heap.size = wa.heap.size + 1 := by rw [hbW]; simp
      have HbB := Lib.hid (show Below wa.heap.size wa Wa by
        rw [hbW]
        exact (Below.refl _ wa).alloc (Nat.le_refl _) _)
      have HB1 := Lib.hid (below_then HB0.out HbB.out HB0.out.size)
      have HQ := Lib.hid (show Blk Wa wa.heap.size 3 #[Value.int IntKind.i64 (-1), Value.int IntKind.i64 17, Value.int IntKind.i64 1048576, Value.int IntKind.i64 1048577] from (by rw [hbW]; repeat (first | exact blk_here (by simp) | refine Blk.alloc ?_ _)))
      clear hbW hbs HbB
      go_loopw [30] (fun i wr => ∃ k : Nat, k ≤ 4 ∧ i = .int .i64 k ∧ Below w.heap.size w wr ∧ Blk wr wa.heap.size 3 #[Value.int IntKind.i64 (-1), Value.int IntKind.i64 17, Value.int IntKind.i64 1048576, Value.int IntKind.i64 1048577]) (fun i _ => 4 - (intOf i).toNat)
      case atStart => exact ⟨0, Nat.zero_le _, rfl, HB1.out, HQ.out⟩
      case round =>
        clear HB0 HB1 HQ
        obtain ⟨k, hk, rfl, hb, hq⟩ := hrel
        have HB0 := Lib.hid hb
        have HQ := Lib.hid hq
        clear hb hq
        by_cases hlt : k < 4
        · have hlt' : (k : Int) < 4 := by omega
          obtain ⟨x, hx⟩ : ∃ x : Int, (#[Value.int IntKind.i64 (-1), Value.int IntKind.i64 17, Value.int IntKind.i64 1048576, Value.int IntKind.i64 1048577])[k]? = some (Value.int IntKind.i64 x) := by
            rcases (show k = 0 ∨ k = 1 ∨ k = 2 ∨ k = 3 by omega) with rfl | rfl | rfl | rfl <;> exact ⟨_, rfl⟩
          have hc : wr.cell? ⟨wa.heap.size, k, none⟩ = some (Value.int IntKind.i64 x) := (HQ.out.cell k).trans hx
          clear hx
          have HC := Lib.hid (finds_any (w := wr) (Nat.le_refl _) x none 0 0 [] cls_nil)
          go_wp2_with fail
          refine HC.out.mono ?_
          rintro e w1 ⟨rfl, hb1⟩
          have HB1 := Lib.hid (below_then HB0.out hb1 HB0.out.size)
          have HQ1 := Lib.hid (HQ.out.below hb1)
          clear hb1 HC
          have HC := Lib.hid (implies_any (w := w1) (Nat.le_refl _) x none 0 0 [] cls_nil 0 none 0 0 [] cls_nil ⟨none, 0, 0, []⟩ cl_nil)
          go_wp2_with fail
          refine HC.out.mono ?_
          rintro e w2 ⟨rfl, hb2⟩
          have HB2 := Lib.hid (below_then HB1.out hb2 HB1.out.size)
          have HQ2 := Lib.hid (HQ1.out.below hb2)
          clear hb2 HC
          have HC := Lib.hid (implies_any (w := w2) (Nat.le_refl _) 0 none 0 0 [] cls_nil x none 0 0 [] cls_nil ⟨none, 0, 0, []⟩ cl_nil)
          go_wp2_with fail
          refine HC.out.mono ?_
          rintro e w3 ⟨rfl, hb3⟩
          have HB3 := Lib.hid (below_then HB2.out hb3 HB2.out.size)
          have HQ3 := Lib.hid (HQ2.out.below hb3)
          clear hb3 HC
          go_wp2
          go_roundw
          case rel => exact ⟨k + 1, by omega, by go_num, HB3.out, HQ3.out⟩
          case measure => simp [intOf]; omega
        · have hlt' : ¬ (k : Int) < 4 := by omega
          rename World => wb
          go_wp2_with fail
          clear hlt hlt' hk HQ
          obtain ⟨Wb, hcW⟩ : ∃ Wb, Wb = (((((((((((((wb.alloc (Obj.cells #[Value.int IntKind.i32 (-1), Value.int IntKind.i32 2] 47)).alloc (Obj.cells #[Value.int IntKind.i32 (-2), Value.int IntKind.i32 3] 47)).alloc (Obj.cells #[Value.slice (some { block := wb.heap.size, off := 0 }) 2 2, Value.slice (some { block := wb.heap.size + 1, off := 0 }) 2 2] 40)).alloc (Obj.cells #[Value.int IntKind.i64 3, Value.slice (some { block := wb.heap.size + 1 + 1, off := 0 }) 2 2] 34)).alloc (Obj.cells #[Value.int IntKind.i32 0] 47)).alloc (Obj.cells #[Value.int IntKind.i32 4] 47)).alloc (Obj.cells #[Value.int IntKind.i32 (-4)] 47)).alloc (Obj.cells #[Value.int IntKind.i32 (-1), Value.int IntKind.i32 3] 47)).alloc (Obj.cells #[Value.int IntKind.i32 3] 47)).alloc (Obj.cells #[Value.int IntKind.i32 1, Value.int IntKind.i32 (-1)] 47)).alloc (Obj.cells #[Value.int IntKind.i32 (-2147483648)] 47)).alloc (Obj.cells #[Value.int IntKind.i32 3, Value.int IntKind.i32 3, Value.int IntKind.i32 4] 47)).alloc (Obj.cells #[Value.slice none 0 0, Value.slice (some { block := wb.heap.size + 1 + 1 + 1 + 1, off := 0 }) 1 1, Value.slice (some { block := wb.heap.size + 1 + 1 + 1 + 1 + 1, off := 0 }) 1 1, Value.slice (some { block := wb.heap.size + 1 + 1 + 1 + 1 + 1 + 1, off := 0 }) 1 1, Value.slice (some { block := wb.heap.size + 1 + 1 + 1 + 1 + 1 + 1 + 1, off := 0 }) 2 2, Value.slice (some { block := wb.heap.size + 1 + 1 + 1 + 1 + 1 + 1 + 1 + 1, off := 0 }) 1 1, Value.slice (some { block := wb.heap.size + 1 + 1 + 1 + 1 + 1 + 1 + 1 + 1 + 1, off := 0 }) 2 2, Value.slice (some { block := wb.heap.size + 1 + 1 + 1 + 1 + 1 + 1 + 1 + 1 + 1 + 1, off := 0 }) 1 1, Value.slice (some { block := wb.heap.size + 1 + 1 + 1 + 1 + 1 + 1 + 1 + 1 + 1 + 1 + 1, off := 0 }) 3 3] 40)) := ⟨_, rfl⟩
          rw [← hcW]
          have hcs : Wb.heap.size = wb.heap.size + 13 := by rw [hcW]; simp
          have HcB := Lib.hid (show Below wb.heap.size wb Wb by
            rw [hcW]
            exact (((((((((((((Below.refl _ wb).alloc (Nat.le_refl _) _).alloc (by simp) _).alloc (by simp; omega) _).alloc (by simp; omega) _).alloc (by simp; omega) _).alloc (by simp; omega) _).alloc (by simp; omega) _).alloc (by simp; omega) _).alloc (by simp; omega) _).alloc (by simp; omega) _).alloc (by simp; omega) _).alloc (by simp; omega) _).alloc (by simp; omega) _)
          have HB1 := Lib.hid (below_then HB0.out HcB.out HB0.out.size)
          obtain ⟨ms, hms⟩ : ∃ ms : List CV, ms = [⟨none, 0, 0, []⟩, ⟨some ⟨wb.heap.size + 1 + 1 + 1 + 1, 0, none⟩, 1, 1, [0]⟩, ⟨some ⟨wb.heap.size + 1 + 1 + 1 + 1 + 1, 0, none⟩, 1, 1, [4]⟩, ⟨some ⟨wb.heap.size + 1 + 1 + 1 + 1 + 1 + 1, 0, none⟩, 1, 1, [-4]⟩, ⟨some ⟨wb.heap.size + 1 + 1 + 1 + 1 + 1 + 1 + 1, 0, none⟩, 2, 2, [-1, 3]⟩, ⟨some ⟨wb.heap.size + 1 + 1 + 1 + 1 + 1 + 1 + 1 + 1, 0, none⟩, 1, 1, [3]⟩, ⟨some ⟨wb.heap.size + 1 + 1 + 1 + 1 + 1 + 1 + 1 + 1 + 1, 0, none⟩, 2, 2, [1, -1]⟩, ⟨some ⟨wb.heap.size + 1 + 1 + 1 + 1 + 1 + 1 + 1 + 1 + 1 + 1, 0, none⟩, 1, 1, [-2147483648]⟩, ⟨some ⟨wb.heap.size + 1 + 1 + 1 + 1 + 1 + 1 + 1 + 1 + 1 + 1 + 1, 0, none⟩, 3, 3, [3, 3, 4]⟩] := ⟨_, rfl⟩
          have hml : ms.length = 9 := by rw [hms]; rfl
          have HMS := Lib.hid (show ∀ x, x ∈ ms → ClOk Wb.heap.size Wb x by
            rw [hms]
            exact (by intro z hz; rcases List.mem_cons.1 hz with rfl | hz; exact cl_nil; rcases List.mem_cons.1 hz with rfl | hz; exact (cl_blk (W := Wb) (B := Wb.heap.size) (g := wb.heap.size + 1 + 1 + 1 + 1) (n := 1) (c := 1) (t := 47) (l := [0]) (by rw [hcW]; repeat (first | exact blk_here (by simp) | refine Blk.alloc ?_ _)) (by omega) rfl (by decide) (by decide)); rcases List.mem_cons.1 hz with rfl | hz; exact (cl_blk (W := Wb) (B := Wb.heap.size) (g := wb.heap.size + 1 + 1 + 1 + 1 + 1) (n := 1) (c := 1) (t := 47) (l := [4]) (by rw [hcW]; repeat (first | exact blk_here (by simp) | refine Blk.alloc ?_ _)) (by omega) rfl (by decide) (by decide)); rcases List.mem_cons.1 hz with rfl | hz; exact (cl_blk (W := Wb) (B := Wb.heap.size) (g := wb.heap.size + 1 + 1 + 1 + 1 + 1 + 1) (n := 1) (c := 1) (t := 47) (l := [-4]) (by rw [hcW]; repeat (first | exact blk_here (by simp) | refine Blk.alloc ?_ _)) (by omega) rfl (by decide) (by decide)); rcases List.mem_cons.1 hz with rfl | hz; exact (cl_blk (W := Wb) (B := Wb.heap.size) (g := wb.heap.size + 1 + 1 + 1 + 1 + 1 + 1 + 1) (n := 2) (c := 2) (t := 47) (l := [-1, 3]) (by rw [hcW]; repeat (first | exact blk_here (by simp) | refine Blk.alloc ?_ _)) (by omega) rfl (by decide) (by decide)); rcases List.mem_cons.1 hz with rfl | hz; exact (cl_blk (W := Wb) (B := Wb.heap.size) (g := wb.heap.size + 1 + 1 + 1 + 1 + 1 + 1 + 1 + 1) (n := 1) (c := 1) (t := 47) (l := [3]) (by rw [hcW]; repeat (first | exact blk_here (by simp) | refine Blk.alloc ?_ _)) (by omega) rfl (by decide) (by decide)); rcases List.mem_cons.1 hz with rfl | hz; exact (cl_blk (W := Wb) (B := Wb.heap.size) (g := wb.heap.size + 1 + 1 + 1 + 1 + 1 + 1 + 1 + 1 + 1) (n := 2) (c := 2) (t := 47) (l := [1, -1]) (by rw [hcW]; repeat (first | exact blk_here (by simp) | refine Blk.alloc ?_ _)) (by omega) rfl (by decide) (by decide)); rcases List.mem_cons.1 hz with rfl | hz; exact (cl_blk (W := Wb) (B := Wb.heap.size) (g := wb.heap.size + 1 + 1 + 1 + 1 + 1 + 1 + 1 + 1 + 1 + 1) (n := 1) (c := 1) (t := 47) (l := [-2147483648]) (by rw [hcW]; repeat (first | exact blk_here (by simp) | refine Blk.alloc ?_ _)) (by omega) rfl (by decide) (by decide)); rcases List.mem_cons.1 hz with rfl | hz; exact (cl_blk (W := Wb) (B := Wb.heap.size) (g := wb.heap.size + 1 + 1 + 1 + 1 + 1 + 1 + 1 + 1 + 1 + 1 + 1) (n := 3) (c := 3) (t := 47) (l := [3, 3, 4]) (by rw [hcW]; repeat (first | exact blk_here (by simp) | refine Blk.alloc ?_ _)) (by omega) rfl (by decide) (by decide)); cases hz))
          have HMT := Lib.hid (show Blk Wb (wb.heap.size + 1 + 1 + 1 + 1 + 1 + 1 + 1 + 1 + 1 + 1 + 1 + 1) 40 (ms.map CV.v).toArray by rw [hms]; exact (by rw [hcW]; repeat (first | exact blk_here (by simp) | refine Blk.alloc ?_ _)))
          have KF := Lib.hid (show Blk Wb (wb.heap.size + 1 + 1 + 1) 34 #[Value.int IntKind.i64 3, Value.slice (some { block := wb.heap.size + 1 + 1, off := 0 }) 2 2] from (by rw [hcW]; repeat (first | exact blk_here (by simp) | refine Blk.alloc ?_ _)))
          obtain ⟨fs, hfs⟩ : ∃ fs : List CV, fs = [⟨some ⟨wb.heap.size, 0, none⟩, 2, 2, [-1, 2]⟩, ⟨some ⟨wb.heap.size + 1, 0, none⟩, 2, 2, [-2, 3]⟩] := ⟨_, rfl⟩
          have HFS := Lib.hid (show ClsOk Wb.heap.size Wb (some ⟨wb.heap.size + 1 + 1, 0, none⟩) 2 fs by rw [hfs]; exact (cls_blk (W := Wb) (B := Wb.heap.size) (g := wb.heap.size + 1 + 1) (n := 2) (t := 40) (cs := [⟨some ⟨wb.heap.size, 0, none⟩, 2, 2, [-1, 2]⟩, ⟨some ⟨wb.heap.size + 1, 0, none⟩, 2, 2, [-2, 3]⟩]) (by rw [hcW]; repeat (first | exact blk_here (by simp) | refine Blk.alloc ?_ _)) (by omega) rfl (by decide) (by intro z hz; rcases List.mem_cons.1 hz with rfl | hz; exact (cl_blk (W := Wb) (B := Wb.heap.size) (g := wb.heap.size) (n := 2) (c := 2) (t := 47) (l := [-1, 2]) (by rw [hcW]; repeat (first | exact blk_here (by simp) | refine Blk.alloc ?_ _)) (by omega) rfl (by decide) (by decide)); rcases List.mem_cons.1 hz with rfl | hz; exact (cl_blk (W := Wb) (B := Wb.heap.size) (g := wb.heap.size + 1) (n := 2) (c := 2) (t := 47) (l := [-2, 3]) (by rw [hcW]; repeat (first | exact blk_here (by simp) | refine Blk.alloc ?_ _)) (by omega) rfl (by decide) (by decide)); cases hz)))
          have HMN := Lib.hid hml
          clear hcW hml hms hfs hcs HcB
          generalize hgm : wb.heap.size + 1 + 1 + 1 + 1 + 1 + 1 + 1 + 1 + 1 + 1 + 1 + 1 = gm at *
          generalize hgf : wb.heap.size + 1 + 1 + 1 = gf at *
          generalize hgr : wb.heap.size + 1 + 1 = gr at *
          clear hgf hgr hgm
          go_loopw [67] (fun i wr => ∃ k : Nat, k ≤ 9 ∧ i = .int .i64 k ∧ Below Wb.heap.size Wb wr) (fun i _ => 9 - (intOf i).toNat)
          case atStart => exact ⟨0, Nat.zero_le _, rfl, Below.refl _ _⟩
          case round =>
            clear HB0
            obtain ⟨k, hk, rfl, hb⟩ := hrel
            have HB0 := Lib.hid hb
            clear hb
            by_cases hlt : k < 9
            · have hlt' : (k : Int) < 9 := by omega
              have hkl : k < ms.length := by rw [HMN.out]; exact hlt
              have hc : wr.cell? ⟨gm, k, none⟩ = some (ms[k]'hkl).v := by
                rw [(HMT.out.below HB0.out).cell k]; simp [hkl]
              have HMO := Lib.hid (HMS.out _ (List.getElem_mem hkl))
              generalize ms[k]'hkl = x at *
              have HCX := Lib.hid fun (w2 : World) (hb : Below Wb.heap.size Wb w2) => (HMO.out.below hb).up hb.size
              have HCF := Lib.hid fun (w2 : World) (hb : Below Wb.heap.size Wb w2) => (HFS.out.below hb).up hb.size
              have HKF := Lib.hid fun (w2 : World) (hb : Below Wb.heap.size Wb w2) => (show w2.cell? ⟨gf, 0, none⟩ = some (Value.int IntKind.i64 3) ∧ w2.cell? ⟨gf, 1, none⟩ = some (Value.slice (some { block := gr, off := 0 }) 2 2) from ⟨(KF.out.below hb).cell 0, (KF.out.below hb).cell 1⟩)
              obtain ⟨xa, xn, xc, xl⟩ := x
              dsimp only [CV.v] at hc
              clear hkl HMO
              obtain ⟨q0, q1⟩ := HKF.out wr HB0.out
              go_wp2_with fail
              clear q0 q1 hc
              obtain ⟨W1, hdW⟩ : ∃ W1, W1 = ((((wr.alloc (Obj.cells #[Value.int IntKind.i32 (-1), Value.int IntKind.i32 2] 47)).alloc (Obj.cells #[Value.int IntKind.i32 (-2), Value.int IntKind.i32 3] 47)).alloc (Obj.cells #[Value.int IntKind.i32 (-1), Value.int IntKind.i32 3] 47)).alloc (Obj.cells #[Value.slice (some { block := wr.heap.size, off := 0 }) 2 2, Value.slice (some { block := wr.heap.size + 1, off := 0 }) 2 2, Value.slice (some { block := wr.heap.size + 1 + 1, off := 0 }) 2 2] 40)) := ⟨_, rfl⟩
              rw [← hdW]
              have hds : W1.heap.size = wr.heap.size + 4 := by rw [hdW]; simp
              have HdB := Lib.hid (show Below wr.heap.size wr W1 by
                rw [hdW]
                exact ((((Below.refl _ wr).alloc (Nat.le_refl _) _).alloc (by simp) _).alloc (by simp; omega) _).alloc (by simp; omega) _)
              have HB1' := Lib.hid (below_then HB0.out HdB.out HB0.out.size)
              have HC := Lib.hid (implies_any (w := W1) (Nat.le_refl _) 3 _ 2 2 _ (HCF.out W1 HB1'.out) 3 _ 3 3 _ (cls_blk (W := W1) (B := W1.heap.size) (g := wr.heap.size + 1 + 1 + 1) (n := 3) (t := 40) (cs := [⟨some ⟨wr.heap.size, 0, none⟩, 2, 2, [-1, 2]⟩, ⟨some ⟨wr.heap.size + 1, 0, none⟩, 2, 2, [-2, 3]⟩, ⟨some ⟨wr.heap.size + 1 + 1, 0, none⟩, 2, 2, [-1, 3]⟩]) (by rw [hdW]; repeat (first | exact blk_here (by simp) | refine Blk.alloc ?_ _)) (by omega) rfl (by decide) (by intro z hz; rcases List.mem_cons.1 hz with rfl | hz; exact (cl_blk (W := W1) (B := W1.heap.size) (g := wr.heap.size) (n := 2) (c := 2) (t := 47) (l := [-1, 2]) (by rw [hdW]; repeat (first | exact blk_here (by simp) | refine Blk.alloc ?_ _)) (by omega) rfl (by decide) (by decide)); rcases List.mem_cons.1 hz with rfl | hz; exact (cl_blk (W := W1) (B := W1.heap.size) (g := wr.heap.size + 1) (n := 2) (c := 2) (t := 47) (l := [-2, 3]) (by rw [hdW]; repeat (first | exact blk_here (by simp) | refine Blk.alloc ?_ _)) (by omega) rfl (by decide) (by decide)); rcases List.mem_cons.1 hz with rfl | hz; exact (cl_blk (W := W1) (B := W1.heap.size) (g := wr.heap.size + 1 + 1) (n := 2) (c := 2) (t := 47) (l := [-1, 3]) (by rw [hdW]; repeat (first | exact blk_here (by simp) | refine Blk.alloc ?_ _)) (by omega) rfl (by decide) (by decide)); cases hz)) _ (HCX.out W1 HB1'.out))
              dsimp only [CV.v] at HC
              clear hdW hds HdB
              refine HC.out.mono ?_
              rintro e w2 ⟨rfl, hb2⟩
              have HB2 := Lib.hid (below_then HB1'.out hb2 HB1'.out.size)
              clear hb2 HC
              obtain ⟨q0, q1⟩ := HKF.out w2 HB2.out
              have HC := Lib.hid (implies_any (w := w2) (Nat.le_refl _) 3 _ 2 2 _ (HCF.out w2 HB2.out) 2 none 0 0 [] cls_nil _ (HCX.out w2 HB2.out))
              dsimp only [CV.v] at HC
              go_wp2_with fail
              refine HC.out.mono ?_
              rintro e w3 ⟨rfl, hb3⟩
              have HB3 := Lib.hid (below_then HB2.out hb3 HB2.out.size)
              clear hb3 HC
              clear q0 q1
              obtain ⟨q0, q1⟩ := HKF.out w3 HB3.out
              have HC := Lib.hid (grows_any (w := w3) (Nat.le_refl _) 3 _ 2 2 _ (HCF.out w3 HB3.out) (fun h => by cases h) _ (HCX.out w3 HB3.out))
              dsimp only [CV.v] at HC
              go_wp2_with fail
              refine HC.out.mono ?_
              rintro e w4 ⟨rfl, hb4⟩
              have HB4 := Lib.hid (below_then HB3.out hb4 HB3.out.size)
              clear hb4 HC
              clear q0 q1
              go_wp2_with fail
              obtain ⟨W5, hfW⟩ : ∃ W5, W5 = (w4.alloc (Obj.cells #[Value.slice xa xn xc] 40)) := ⟨_, rfl⟩
              rw [← hfW]
              have hfs : W5.heap.size = w4.heap.size + 1 := by rw [hfW]; simp
              have HfB := Lib.hid (show Below w4.heap.size w4 W5 by
                rw [hfW]
                exact (Below.refl _ w4).alloc (Nat.le_refl _) _)
              have HB5 := Lib.hid (below_then HB4.out HfB.out HB4.out.size)
              have HC := Lib.hid (grows_any (w := W5) (Nat.le_refl _) 3 _ 1 1 _ (cls_blk (W := W5) (B := W5.heap.size) (g := w4.heap.size) (n := 1) (t := 40) (cs := [⟨xa, xn, xc, xl⟩]) (by rw [hfW]; repeat (first | exact blk_here (by simp) | refine Blk.alloc ?_ _)) (by omega) rfl (by decide) (fun z hz => by obtain rfl := List.mem_singleton.1 hz; exact HCX.out W5 HB5.out)) (fun h => by cases h) _ (HCX.out W5 HB5.out))
              dsimp only [CV.v] at HC
              clear hfW hfs HfB
              refine HC.out.mono ?_
              rintro e w6 ⟨rfl, hb6⟩
              have HB6 := Lib.hid (below_then HB5.out hb6 HB5.out.size)
              clear hb6 HC
              go_wp2
              go_roundw
              case rel => exact ⟨k + 1, by omega, by go_num, HB6.out⟩
              case measure => simp [intOf]; omega
            · have hlt' : ¬ (k : Int) < 9 := by omega
              rename World => wc
              have HB2 := Lib.hid (below_then HB1.out HB0.out HB1.out.size)
              go_wp2_with fail
              clear hlt hlt' hk HB0 HB1
              obtain ⟨Wc, hdW⟩ : ∃ Wc, Wc = ((wc.alloc (Obj.cells #[Value.int IntKind.i32 16] 47)).alloc (Obj.cells #[Value.slice (some { block := wc.heap.size, off := 0 }) 1 1] 40)) := ⟨_, rfl⟩
              rw [← hdW]
              have hds : Wc.heap.size = wc.heap.size + 2 := by rw [hdW]; simp
              have HdB := Lib.hid (show Below wc.heap.size wc Wc by
                rw [hdW]
                exact ((Below.refl _ wc).alloc (Nat.le_refl _) _).alloc (by simp) _)
              have HB3 := Lib.hid (below_then HB2.out HdB.out HB2.out.size)
              have HC := Lib.hid (Count_any (w := Wc) (Nat.le_refl _) 16 _ 1 1 _ (cls_blk (W := Wc) (B := Wc.heap.size) (g := wc.heap.size + 1) (n := 1) (t := 40) (cs := [⟨some ⟨wc.heap.size, 0, none⟩, 1, 1, [16]⟩]) (by rw [hdW]; repeat (first | exact blk_here (by simp) | refine Blk.alloc ?_ _)) (by omega) rfl (by decide) (by intro z hz; rcases List.mem_cons.1 hz with rfl | hz; exact (cl_blk (W := Wc) (B := Wc.heap.size) (g := wc.heap.size) (n := 1) (c := 1) (t := 47) (l := [16]) (by rw [hdW]; repeat (first | exact blk_here (by simp) | refine Blk.alloc ?_ _)) (by omega) rfl (by decide) (by decide)); cases hz)))
              rw [count16] at HC
              dsimp only at HC
              clear hdW hds HdB
              refine HC.out.mono ?_
              rintro e w4 ⟨rfl, hb4⟩
              have HB4 := Lib.hid (below_then HB3.out hb4 HB3.out.size)
              clear hb4 HC
              go_wp2_with fail
              obtain ⟨Wd, hfW⟩ : ∃ Wd, Wd = (((w4.alloc (Obj.cells #[Value.int IntKind.i32 16] 47)).alloc (Obj.cells #[Value.int IntKind.i32 (-1), Value.int IntKind.i32 15] 47)).alloc (Obj.cells #[Value.slice (some { block := w4.heap.size, off := 0 }) 1 1, Value.slice (some { block := w4.heap.size + 1, off := 0 }) 2 2] 40)) := ⟨_, rfl⟩
              rw [← hfW]
              have hfs : Wd.heap.size = w4.heap.size + 3 := by rw [hfW]; simp
              have HfB := Lib.hid (show Below w4.heap.size w4 Wd by
                rw [hfW]
                exact (((Below.refl _ w4).alloc (Nat.le_refl _) _).alloc (by simp) _).alloc (by simp; omega) _)
              have HB5 := Lib.hid (below_then HB4.out HfB.out HB4.out.size)
              have HC := Lib.hid (Find_any (w := Wd) (Nat.le_refl _) 16 _ 2 2 _ (cls_blk (W := Wd) (B := Wd.heap.size) (g := w4.heap.size + 1 + 1) (n := 2) (t := 40) (cs := [⟨some ⟨w4.heap.size, 0, none⟩, 1, 1, [16]⟩, ⟨some ⟨w4.heap.size + 1, 0, none⟩, 2, 2, [-1, 15]⟩]) (by rw [hfW]; repeat (first | exact blk_here (by simp) | refine Blk.alloc ?_ _)) (by omega) rfl (by decide) (by intro z hz; rcases List.mem_cons.1 hz with rfl | hz; exact (cl_blk (W := Wd) (B := Wd.heap.size) (g := w4.heap.size) (n := 1) (c := 1) (t := 47) (l := [16]) (by rw [hfW]; repeat (first | exact blk_here (by simp) | refine Blk.alloc ?_ _)) (by omega) rfl (by decide) (by decide)); rcases List.mem_cons.1 hz with rfl | hz; exact (cl_blk (W := Wd) (B := Wd.heap.size) (g := w4.heap.size + 1) (n := 2) (c := 2) (t := 47) (l := [-1, 15]) (by rw [hfW]; repeat (first | exact blk_here (by simp) | refine Blk.alloc ?_ _)) (by omega) rfl (by decide) (by decide)); cases hz)))
              clear hfW hfs HfB
              refine HC.out.mono ?_
              rintro e w6 ⟨hF, hb6⟩
              have HB6 := Lib.hid (below_then HB5.out hb6 HB5.out.size)
              obtain ⟨A, c, rfl, hO⟩ := hF.get (find16 _ _ _ _ _ _)
              rw [show (modelB 16 32768).length = 16 from modelB_length 16 32768] at hO ⊢
              obtain ⟨b0, off, ea, _, hc0⟩ := md_at (md_own hO (by decide)) (show 0 < 16 by decide)
              obtain ⟨b1, off1, ea1, _, hc1⟩ := md_at (md_own hO (by decide)) (show 15 < 16 by decide)
              subst ea
              cases ea1
              rw [show (modelB 16 32768).getD 0 false = false by kernel_rfl] at hc0
              rw [show (modelB 16 32768).getD 15 false = true by kernel_rfl] at hc1
              rw [Nat.add_zero] at hc0
              clear hF hb6 hO HC
              have HC := Lib.hid (works_any w6)
              go_wp2_with fail
              refine HC.out.mono ?_
              rintro e w7 ⟨rfl, hb7⟩
              have HB7 := Lib.hid (below_then HB6.out hb7 HB6.out.size)
              clear hb7 HC
              go_wp2
              go_ret
              exact ⟨rfl, HB7.out⟩
end Go.Proofs.Ytfpohiflpemkjaa.Tr
