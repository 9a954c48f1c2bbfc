/- The walk of works of the statements of phase. -/
import Derived.Test.YtcmicmghnmklnaaPhE
namespace Go.Proofs.Ytcmicmghnmklnaa.Ph
open Go.RowKit Go.Proofs.Ytcmicmghnmklnaa.Mem Go.Proofs.Ytcmicmghnmklnaa.Sl Go.Shelf
set_option linter.unusedVariables false

def decM (m : PM) (v : Nat) : Bool := if m.tv.getD (v - 1) 0 = 0 then m.saved.getD (v - 1) false else decide (0 < m.tv.getD (v - 1) 0)
theorem decV_abs (p : PV) (v : Nat) : decV p v = decM p.abs v := rfl
theorem rd_new (w : World) (t : TypeId) (l : List Int) : RdV (w.alloc (.cells (l.map (Value.int .i32)).toArray t)) (some ⟨w.heap.size, 0, none⟩) (l.map (Value.int .i32)) := by
  have h := Blk.new w t (l.map (Value.int .i32)).toArray
  exact RdV.blk (rest := []) (by simpa using h)
set_option maxRecDepth 100000 in
theorem works_ok (w : World) : Calls Try.prog 9 #[] w fun e w' => e = .returned (.bool true) ∧ Below w.heap.size w w' := by
  go_enter Try.func9, Try.ntmps9
  go_wp2_with fail
  refine (new_ok 3 true 0 w (by omega) (by omega) (by omega)).mono ?_
  rintro e w1 ⟨g, p1, rfl, h1, hm1, hg1, hb1⟩
  have HB1 := Lib.hid hb1
  have HS1 := Lib.hid (show p1.saved = [true, true, true] from congrArg PM.saved hm1)
  have HM1 := Lib.hid hm1
  have hD1 : decV p1 2 = true := by rw [decV_abs, hm1]; decide
  have D1 := Lib.hid (decide_ok h1 2 (by omega) (by rw [HS1.out]; decide))
  rw [hD1] at D1
  have H1 := Lib.hid h1
  clear h1 hm1 hb1 hD1
  go_wp2_with fail
  refine D1.out.mono ?_
  rintro e w2 ⟨rfl, hb2⟩
  have HB2 := Lib.hid (below_then HB1.out hb2 HB1.out.size)
  have H2 := Lib.hid (H1.out.below hb2)
  clear hb2
  go_wp2_with fail
  have S3 := Lib.hid (save_any (H2.out.below ((Below.refl _ w2).alloc (Nat.le_refl _) (.cells #[.int .i32 (-2)] 35))) (some ⟨w2.heap.size, 0, none⟩) 1 [-2] 1 rfl (by omega) (rd_new w2 35 [-2])
    (fun _ b off h e => by have := H2.out.row.lt; cases h; exact absurd e (Nat.ne_of_gt this)))
  rw [HS1.out] at S3
  refine S3.out.mono ?_
  rintro e w3 ⟨p3, rfl, h3, hm3, hs3, hd3⟩
  have HM3 := Lib.hid (show p3.abs = saveM (newM 3 true 0) [-2] by rw [hm3, HM1.out])
  have HS3 := Lib.hid (show p3.saved = [true, false, true] from (congrArg PM.saved HM3.out).trans (by decide))
  have hD3 : decV p3 2 = false := by rw [decV_abs, HM3.out]; decide
  have D3 := Lib.hid (decide_ok h3 2 (by omega) (by rw [HS3.out]; decide))
  rw [hD3] at D3
  have H3 := Lib.hid h3
  have HB3 := Lib.hid (Below.then_mod (HB2.out.alloc HB2.out.size (.cells #[.int .i32 (-2)] 35)) hd3 (fun i hi => by have := H1.out.bs; omega) (Nat.le_refl _))
  clear h3 hm3 hs3 hd3 hD3
  go_wp2_with fail
  refine D3.out.mono ?_
  rintro e w4 ⟨rfl, hb4⟩
  have HB4 := Lib.hid (below_then HB3.out hb4 HB3.out.size)
  have H4 := Lib.hid (H3.out.below hb4)
  clear hb4
  go_wp2_with fail
  have R5 := Lib.hid (reach_any (H4.out.below ((Below.refl _ w4).alloc (Nat.le_refl _) (.cells #[.int .i32 2, .int .i32 (-1)] 35))) (by have := HB4.out.size; rw [World.size_alloc]; omega) (some ⟨w4.heap.size, 0, none⟩) 2 [2, -1] 2 rfl (by omega) (rd_new w4 35 [2, -1])
    (fun _ b off h e => by have := H4.out.blk.lt; cases h; exact absurd e (Nat.ne_of_gt this)))
  rw [HS3.out, show p3.tn = 0 from congrArg PM.tn HM3.out, show p3.bn = 0 from congrArg PM.bn HM3.out] at R5
  refine R5.out.mono ?_
  rintro e w5 ⟨p5, rfl, h5, hm5, hs5, hd5⟩
  have HM5 := Lib.hid (show p5.abs = reachM (saveM (newM 3 true 0) [-2]) [2, -1] by rw [hm5, HM3.out])
  have HS5 := Lib.hid (show p5.saved = [true, false, true] from (congrArg PM.saved HM5.out).trans (by decide))
  have hD5 : decV p5 1 = false := by rw [decV_abs, HM5.out]; decide
  have D5 := Lib.hid (decide_ok h5 1 (by omega) (by rw [HS5.out]; decide))
  rw [hD5] at D5
  have HB5 := Lib.hid (Below.then_mod (HB4.out.alloc HB4.out.size (.cells #[.int .i32 2, .int .i32 (-1)] 35)) hd5 (fun i hi => by have := H1.out.bg; omega) (Nat.le_refl _))
  clear h5 hm5 hs5 hd5 hD5
  go_wp2_with fail
  refine D5.out.mono ?_
  rintro e w6 ⟨rfl, hb6⟩
  have HB6 := Lib.hid (below_then HB5.out hb6 HB5.out.size)
  clear hb6
  go_wp2
  go_ret
  exact ⟨rfl, HB6.out⟩
end Go.Proofs.Ytcmicmghnmklnaa.Ph
