/- The walk of PhaseKnown: printed by wip/tools/gen_known14.py. -/
import Derived.Test.YtcmicmghnmklnaaPhQ
namespace Go.Proofs.Ytcmicmghnmklnaa.Ph
open Go.RowKit Go.Proofs.Ytcmicmghnmklnaa.Mem Go.Proofs.Ytcmicmghnmklnaa.Sl Go.Shelf
set_option linter.unusedVariables false

def kp0 : PM := newM 3 true 0
def kp1 : PM := saveM kp0 [4]
def kp2 : PM := saveM kp1 [-1, 0]
def kp3 : PM := saveM kp2 [-2147483648]
def kp4 : PM := saveM kp3 [-2]
def kp5 : PM := reachM kp4 [2, -1]
def kp6 : PM := reachM kp5 [3, 1]
def kp7 : PM := turnM kp6
def kp8 : PM := reachM kp7 [-3]
def kq0 : PM := newM 2 false 0
def kr0 : PM := newM 2 false 1
def kq1 : PM := drawM kq0
def kq2 : PM := drawM kq1
def kr1 : PM := drawM kr0
def iterQ : Nat → PM
  | 0 => kq2
  | n + 1 => turnM (iterQ n)
theorem iterQ_turned : ∀ n, (iterQ n).turned = n
  | 0 => rfl
  | n + 1 => by show (iterQ n).turned + 1 = _; rw [iterQ_turned n]; omega
def wantL : List Int := [0, 1, 2, 3, 0, 2, 4, 1, 2, 3]
theorem want_kind : ∀ i, i < 10 → kindN (i : Nat) = wantL.getD i 0 := by decide +kernel
def ks0 : PM := newM 2 false 5
def ks1 : PM := reachM ks0 [1, -1, 2, 2]
def ks2 : PM := turnM ks1
def ks3 : PM := turnM ks2
def ks4 : PM := turnM ks3
theorem saved_s : ks4.saved = [false, true] := by decide +kernel
def ks5 : PM := reachM ks4 [1]
def ks6 : PM := reachM ks5 [9]
set_option maxRecDepth 100000 in
set_option maxHeartbeats 8000000 in
theorem known_walk (w : World) : Calls Try.prog 7 #[] w fun e w' => e = .returned (.bool true) ∧ Below w.heap.size w w' := by
  go_enter Try.func7, Try.ntmps7
  go_wp2_with fail
  refine (new_at 3 true 0 w _ (by omega) (by omega) (by omega) (Below.refl _ _)).mono ?_
  rintro e v1 ⟨gp, rfl, h, hge, hbb⟩
  have H1 := Lib.hid (show At gp kp0 w v1 from h)
  clear h hge hbb
  go_wp2_with fail
  refine (decide_at2 H1.out (4) false 2 (by decide +kernel)).mono ?_
  rintro e v2 ⟨rfl, h⟩
  have H2 := Lib.hid h
  clear h H1
  go_wp2_with fail
  refine (decide_at2 H2.out (0) false 2 (by decide +kernel)).mono ?_
  rintro e v3 ⟨rfl, h⟩
  have H3 := Lib.hid h
  clear h H2
  go_wp2_with fail
  refine (save_at H3.out [4] #[.int .i32 4] rfl 1 rfl (by omega) 2 (by decide +kernel)).mono ?_
  rintro e v4 ⟨rfl, h⟩
  have H4 := Lib.hid (show At gp kp1 w v4 from h)
  clear h H3
  go_wp2_with fail
  refine (save_at H4.out [-1, 0] #[.int .i32 (-1), .int .i32 0] rfl 2 rfl (by omega) 2 (by decide +kernel)).mono ?_
  rintro e v5 ⟨rfl, h⟩
  have H5 := Lib.hid (show At gp kp2 w v5 from h)
  clear h H4
  go_wp2_with fail
  refine (save_at H5.out [-2147483648] #[.int .i32 (-2147483648)] rfl 1 rfl (by omega) 2 (by decide +kernel)).mono ?_
  rintro e v6 ⟨rfl, h⟩
  have H6 := Lib.hid (show At gp kp3 w v6 from h)
  clear h H5
  go_wp2_with fail
  refine (save_at H6.out [-2] #[.int .i32 (-2)] rfl 1 rfl (by omega) 0 (by decide +kernel)).mono ?_
  rintro e v7 ⟨rfl, h⟩
  have H7 := Lib.hid (show At gp kp4 w v7 from h)
  clear h H6
  go_wp2_with fail
  refine (reach_at H7.out [2, -1] #[.int .i32 2, .int .i32 (-1)] rfl 2 rfl (by omega) true true 0 (by decide +kernel) (by decide +kernel) (by decide +kernel)).mono ?_
  rintro e v8 ⟨rfl, h⟩
  have H8 := Lib.hid (show At gp kp5 w v8 from h)
  clear h H7
  go_wp2_with fail
  refine (reach_at H8.out [3, 1] #[.int .i32 3, .int .i32 1] rfl 2 rfl (by omega) false false 0 (by decide +kernel) (by decide +kernel) (by decide +kernel)).mono ?_
  rintro e v9 ⟨rfl, h⟩
  have H9 := Lib.hid (show At gp kp6 w v9 from h)
  clear h H8
  go_wp2_with fail
  refine (turn_at H9.out (by decide +kernel) 0 (by decide +kernel)).mono ?_
  rintro e v10 ⟨rfl, h, _⟩
  have H10 := Lib.hid (show At gp kp7 w v10 from h)
  clear h H9
  go_wp2_with fail
  refine (decide_at2 H10.out (1) true 0 (by decide +kernel)).mono ?_
  rintro e v11 ⟨rfl, h⟩
  have H11 := Lib.hid h
  clear h H10
  go_wp2_with fail
  refine (reach_at H11.out [-3] #[.int .i32 (-3)] rfl 1 rfl (by omega) true false 0 (by decide +kernel) (by decide +kernel) (by decide +kernel)).mono ?_
  rintro e v12 ⟨rfl, h⟩
  have H12 := Lib.hid (show At gp kp8 w v12 from h)
  clear h H11
  go_wp2_with fail
  refine (decide_at2 H12.out (3) false 0 (by decide +kernel)).mono ?_
  rintro e v13 ⟨rfl, h⟩
  have H13 := Lib.hid h
  clear h H12
  go_wp2_with fail
  refine (new_at 2 false 0 w _ (by omega) (by omega) (by omega) H13.out.bel).mono ?_
  rintro e v14 ⟨gq, rfl, h, hge, hbb⟩
  have H14 := Lib.hid (show At gq kq0 w v14 from h)
  clear h hge hbb
  go_wp2_with fail
  refine (new_at 2 false 1 w _ (by omega) (by omega) (by omega) H14.out.bel).mono ?_
  rintro e v15 ⟨gr, rfl, h, hge, hbb⟩
  have H15 := Lib.hid (show At gr kr0 w v15 from h)
  have H16 := Lib.hid (H14.out.below hbb)
  have hne := Lib.hid (show gr ≠ gq by have := H14.out.lt; omega)
  clear H14
  clear h hge hbb
  go_wp2_with fail
  refine (draw_at H16.out 1082269761 (by decide +kernel)).mono ?_
  rintro e v16 ⟨rfl, h, hoth⟩
  have H17 := Lib.hid (show At gq kq1 w v16 from h)
  have H18 := Lib.hid (hoth _ _ H15.out hne.out)
  clear H15
  clear hoth
  clear h H16
  go_wp2_with fail
  refine (draw_at H17.out 1152992998833853505 (by decide +kernel)).mono ?_
  rintro e v17 ⟨rfl, h, hoth⟩
  have H19 := Lib.hid (show At gq kq2 w v17 from h)
  have H20 := Lib.hid (hoth _ _ H18.out hne.out)
  clear H18
  clear hoth
  clear h H17
  go_wp2_with fail
  refine (draw_at H20.out 1082269761 (by decide +kernel)).mono ?_
  rintro e v18 ⟨rfl, h, hoth⟩
  have H21 := Lib.hid (show At gr kr1 w v18 from h)
  have H22 := Lib.hid (hoth _ _ H19.out hne.out.symm)
  clear H19
  clear hoth
  clear h H20
  go_wp2_with fail
  obtain ⟨W, hW⟩ : ∃ W, W = v18.alloc (.cells #[.int .u8 0, .int .u8 1, .int .u8 2, .int .u8 3, .int .u8 0, .int .u8 2, .int .u8 4, .int .u8 1, .int .u8 2, .int .u8 3] 39) := ⟨_, rfl⟩
  rw [← hW]
  have hk := Blk.new v18 39 #[.int .u8 0, .int .u8 1, .int .u8 2, .int .u8 3, .int .u8 0, .int .u8 2, .int .u8 4, .int .u8 1, .int .u8 2, .int .u8 3]
  rw [← hW] at hk
  have K0 := Lib.hid hk
  have H23 := Lib.hid (show At gq kq2 w W from hW ▸ H22.out.alloc _)
  generalize hz : v18.heap.size = z at *
  clear hW hk hz
  go_loopw [27] (fun x wr => ∃ i : Nat, i ≤ 10 ∧ x = .int .i64 i ∧ At gq (iterQ i) w wr ∧ Blk wr z 39 #[.int .u8 0, .int .u8 1, .int .u8 2, .int .u8 3, .int .u8 0, .int .u8 2, .int .u8 4, .int .u8 1, .int .u8 2, .int .u8 3]) (fun x _ => 10 - (intOf x).toNat)
  case atStart => exact ⟨0, by omega, rfl, H23.out, K0.out⟩
  case round =>
    obtain ⟨i, hi, rfl, ha, hb⟩ := hrel
    have HA := Lib.hid ha
    have HB := Lib.hid hb
    have hcell : i < 10 → wr.cell? ⟨z, i, none⟩ = some (.int .u8 (wantL.getD i 0)) := fun h => by
      rw [hb.cell i]
      have : i = 0 ∨ i = 1 ∨ i = 2 ∨ i = 3 ∨ i = 4 ∨ i = 5 ∨ i = 6 ∨ i = 7 ∨ i = 8 ∨ i = 9 := by omega
      rcases this with rfl | rfl | rfl | rfl | rfl | rfl | rfl | rfl | rfl | rfl <;> rfl
    clear ha hb
    by_cases hi10 : i < 10
    · have T := Lib.hid (turn_at HA.out (by rw [iterQ_turned]; omega) (wantL.getD i 0) (by rw [iterQ_turned]; exact want_kind i hi10))
      have hc := hcell hi10
      clear hcell
      generalize wantL.getD i 0 = kk at *
      go_wp2_with fail
      refine T.out.mono ?_
      rintro e wx ⟨rfl, ht, hoth⟩
      have HT := Lib.hid ht
      have HB2 := Lib.hid (hoth _ _ _ HB.out (by decide) (by decide))
      have hc2 : wx.cell? ⟨z, i, none⟩ = some (.int .u8 kk) := by rw [HB2.out.cell i, ← HB.out.cell i]; exact hc
      clear ht hoth hc
      go_wp2
      go_roundw
      case rel => exact ⟨i + 1, by omega, by go_num, HT.out, HB2.out⟩
      case measure => simp [intOf]; omega
    · clear hcell
      go_wp2_with fail
      refine (new_at 2 false 5 w _ (by omega) (by omega) (by omega) HA.out.bel).mono ?_
      rintro e v19 ⟨gs, rfl, h, hge, hbb⟩
      have H24 := Lib.hid (show At gs ks0 w v19 from h)
      clear h hge hbb
      go_wp2_with fail
      refine (reach_at H24.out [1, -1, 2, 2] #[.int .i32 1, .int .i32 (-1), .int .i32 2, .int .i32 2] rfl 4 rfl (by omega) true true 0 (by decide +kernel) (by decide +kernel) (by decide +kernel)).mono ?_
      rintro e v20 ⟨rfl, h⟩
      have H25 := Lib.hid (show At gs ks1 w v20 from h)
      clear h H24
      go_wp2_with fail
      refine (turn_at H25.out (by decide +kernel) 0 (by decide +kernel)).mono ?_
      rintro e v21 ⟨rfl, h, _⟩
      have H26 := Lib.hid (show At gs ks2 w v21 from h)
      clear h H25
      go_wp2_with fail
      refine (turn_at H26.out (by decide +kernel) 1 (by decide +kernel)).mono ?_
      rintro e v22 ⟨rfl, h, _⟩
      have H27 := Lib.hid (show At gs ks3 w v22 from h)
      clear h H26
      go_wp2_with fail
      refine (turn_at H27.out (by decide +kernel) 2 (by decide +kernel)).mono ?_
      rintro e v23 ⟨rfl, h, _⟩
      have H28 := Lib.hid (show At gs ks4 w v23 from h)
      clear h H27
      go_wp2_with fail
      refine (saved_at H28.out 2 (by decide +kernel)).mono ?_
      rintro e v24 ⟨g2, cap2, rfl, hrow, h⟩
      have H29 := Lib.hid h
      have r0 : v24.cell? ⟨g2, 0, none⟩ = some (.bool false) := hrow.cell (by rw [saved_s]; rfl)
      have r1 : v24.cell? ⟨g2, 1, none⟩ = some (.bool true) := hrow.cell (by rw [saved_s]; rfl)
      clear hrow
      clear h H28
      go_wp2_with fail
      clear r0 r1
      refine (reach_at H29.out [1] #[.int .i32 1] rfl 1 rfl (by omega) true true 0 (by decide +kernel) (by decide +kernel) (by decide +kernel)).mono ?_
      rintro e v25 ⟨rfl, h⟩
      have H30 := Lib.hid (show At gs ks5 w v25 from h)
      clear h H29
      go_wp2_with fail
      refine (new_bad (-1) true 1 _ (by omega)).mono ?_
      rintro e v26 ⟨rfl, rfl⟩
      go_wp2_with fail
      refine (new_bad 1048577 true 1 _ (by omega)).mono ?_
      rintro e v27 ⟨rfl, rfl⟩
      go_wp2_with fail
      refine (reach_at H30.out [9] #[.int .i32 9] rfl 1 rfl (by omega) false false 2 (by decide +kernel) (by decide +kernel) (by decide +kernel)).mono ?_
      rintro e v28 ⟨rfl, h⟩
      have H31 := Lib.hid (show At gs ks6 w v28 from h)
      clear h H30
      go_wp2_with fail
      refine (decide_nil 1 _).mono ?_
      rintro e v29 ⟨rfl, rfl⟩
      go_wp2_with fail
      refine (reach_nil _).mono ?_
      rintro e v30 ⟨rfl, hbn⟩
      have H32 := Lib.hid (H31.out.below hbn)
      clear hbn
      go_wp2_with fail
      refine (turn_nil _).mono ?_
      rintro e v31 ⟨rfl, rfl⟩
      go_wp2_with fail
      refine (save_nil _).mono ?_
      rintro e v32 ⟨rfl, rfl⟩
      go_wp2_with fail
      refine (saved_nil _).mono ?_
      rintro e v33 ⟨rfl, rfl⟩
      go_wp2_with fail
      refine (draw_nil _).mono ?_
      rintro e v34 ⟨rfl, rfl⟩
      go_wp2_with fail
      refine (copy_nil _).mono ?_
      rintro e v35 ⟨rfl, rfl⟩
      go_wp2_with fail
      refine (works_ok _).mono ?_
      rintro e v36 ⟨rfl, hbw⟩
      have HW := Lib.hid (below_then H32.out.bel hbw H32.out.bel.size)
      clear hbw
      go_wp2
      go_ret
      exact ⟨rfl, HW.out⟩
end Go.Proofs.Ytcmicmghnmklnaa.Ph
