/- ReduceKnown's walk. Conditions: none. -/
import Derived.Test.YtcblhfjgdkbinaaJu
namespace Go.Proofs.Ytcblhfjgdkbinaa.Re
open Go.RowKit Go.Proofs.Ytcblhfjgdkbinaa.Mem Go.Proofs.Ytcblhfjgdkbinaa.Sl Go.Shelf Go.Sort Go.Proofs.Ytcblhfjgdkbinaa.Sr
open Go.Proofs.Ytcblhfjgdkbinaa.FnL (enc_at below_then)
set_option linter.unusedVariables false

def knR : List Rc := [⟨5, 3, 4, 0, false⟩, ⟨6, 9, 9, 0, false⟩, ⟨7, 9, 12, 1, false⟩, ⟨8, 9, 12, 2, false⟩, ⟨9, 1, 2, 0, false⟩, ⟨4, 9, 9, 0, false⟩, ⟨4, 9, 9, 0, false⟩, ⟨3, 6, 9, 1, false⟩, ⟨2, 7, 9, 0, true⟩, ⟨1, -5, 0, -5, false⟩, ⟨4611686018427387904, 9223372036854775807, -9223372036854775808, -1, false⟩]
def knG : List Int := [-9223372036854775808, -1, 0, 1, 2, 3, 5, 65535, 65536, 9223372036854775807]
def knP : List Int := [-1, 0, 1, 33, 34, 50, 67, 99, 100, 101, 9223372036854775807]
def knN : List Int := [-1, 0, 1, 2, 3000, 1000001, 9223372036854775807]
def knF : List Int := [-1, 0, 1, 300, 1000000, 1000001, -9223372036854775808]
def inZ (x : Int) : Prop := -9223372036854775808 ≤ x ∧ x ≤ 9223372036854775807
theorem all_in {l : List Int} (h : l.all (fun x => decide (-9223372036854775808 ≤ x ∧ x ≤ 9223372036854775807)) = true) {i : Nat} (hi : i < l.length) : inZ l[i] := by
  have := List.all_eq_true.1 h l[i] (List.getElem_mem hi)
  exact of_decide_eq_true (p := -9223372036854775808 ≤ l[i] ∧ l[i] ≤ 9223372036854775807) this
theorem inZ.wf {x : Int} (h : inZ x) : (Lit.int .i64 x).wf = true := by
  simp only [Lit.wf, Bool.and_eq_true, decide_eq_true_eq]; exact h
theorem limit_top (w : World) : Calls Try.prog 11 #[.int .i64 1000000, .int .i64 1000000] w fun e w' => e = .returned (.tuple #[.int .i64 500000500000000000, .int .i64 0]) ∧ w = w' := by
  obtain ⟨k, hk⟩ : ∃ k : Nat, (k : Int) = 1000000 := ⟨1000000, rfl⟩
  have h := limit_ok 1000000 k (by unfold okLim; omega) w
  have t := tri2 k
  rw [hk] at t h
  have e : tri k = 500000500000 := by omega
  rw [e] at h
  exact h
set_option maxRecDepth 100000 in
set_option maxHeartbeats 8000000 in
theorem known_any (w : World) : Calls Try.prog 5 #[] w fun e w' => e = .returned (.bool true) ∧ Below w.heap.size w w' := by
  obtain ⟨W1, hW1⟩ : ∃ W1, W1 = w.alloc (.cells #[.int .i64 5, .int .i64 3, .int .i64 4, .int .i64 0, .bool false, .int .i64 6, .int .i64 9, .int .i64 9, .int .i64 0, .bool false, .int .i64 7, .int .i64 9, .int .i64 12, .int .i64 1, .bool false, .int .i64 8, .int .i64 9, .int .i64 12, .int .i64 2, .bool false, .int .i64 9, .int .i64 1, .int .i64 2, .int .i64 0, .bool false, .int .i64 4, .int .i64 9, .int .i64 9, .int .i64 0, .bool false, .int .i64 4, .int .i64 9, .int .i64 9, .int .i64 0, .bool false, .int .i64 3, .int .i64 6, .int .i64 9, .int .i64 1, .bool false, .int .i64 2, .int .i64 7, .int .i64 9, .int .i64 0, .bool true, .int .i64 1, .int .i64 (-5), .int .i64 0, .int .i64 (-5), .bool false, .int .i64 4611686018427387904, .int .i64 9223372036854775807, .int .i64 (-9223372036854775808), .int .i64 (-1), .bool false] 40) := ⟨_, rfl⟩
  have HB1 := Lib.hid (show Below w.heap.size w W1 by rw [hW1]; exact (Below.refl _ _).alloc (Nat.le_refl _) _)
  have HX1 := Lib.hid (show Blk W1 w.heap.size 40 (RCs knR).toArray by rw [hW1]; exact Blk.new _ _ _)
  have HW1 := Lib.hid hW1
  have HRD := Lib.hid (show ∀ W, Below W1.heap.size W1 W → RdV W (some ⟨w.heap.size, 0, none⟩) (RCs knR) from fun W hb => RdV.blk (rest := []) (by rw [List.append_nil]; exact HX1.out.below hb))
  have HC1 := Lib.hid (show ∀ W, Below W1.heap.size W1 W → ∀ gl part, Calls Try.prog 13 #[.slice (some ⟨w.heap.size, 0, none⟩) 11 11, .int .i64 gl, .int .i64 part] W fun e w' => e = .returned (.bool true) ∧ Below W.heap.size W w' from fun W hb gl part => chooses_any (some ⟨w.heap.size, 0, none⟩) 11 knR (HRD.out W hb) (by decide) gl part)
  have HC2 := Lib.hid (show ∀ W, Below W1.heap.size W1 W → ∀ gl part, Calls Try.prog 13 #[.slice (some ⟨w.heap.size, 0, none⟩) 5 11, .int .i64 gl, .int .i64 part] W fun e w' => e = .returned (.bool true) ∧ Below W.heap.size W w' from fun W hb gl part => chooses_any (some ⟨w.heap.size, 0, none⟩) 11 (knR.take 5) (rd_take (HRD.out W hb) (by decide)) (by decide) gl part)
  have HC3 := Lib.hid (show ∀ W, Below W1.heap.size W1 W → ∀ gl part, inZ part → Calls Try.prog 3 #[.slice (some ⟨w.heap.size, 0, none⟩) 11 11, .int .i64 gl, .int .i64 part, .int .i64 7] W fun e w' => e = .returned (.bool true) ∧ Below W.heap.size W w' from fun W hb gl part hp => keeps_any (some ⟨w.heap.size, 0, none⟩) 11 11 knR rfl (HRD.out W hb) gl part 7 hp (by decide))
  have HLI := Lib.hid (fun (f n : Int) (hf : inZ f) (hn : inZ n) W => limits_any f n hf.wf hn.wf W)
  have HTP := Lib.hid (fun W => limit_top W)
  have HWK := Lib.hid (fun W => works_any W)
  go_enter Try.func5, Try.ntmps5
  go_upto_region 2 with (fail)
  rw [← hW1]
  clear hW1
  obtain ⟨W2, hW2⟩ : ∃ W2, W2 = W1.alloc (.cells #[.int .i64 (-9223372036854775808), .int .i64 (-1), .int .i64 0, .int .i64 1, .int .i64 2, .int .i64 3, .int .i64 5, .int .i64 65535, .int .i64 65536, .int .i64 9223372036854775807] 3) := ⟨_, rfl⟩
  have HB2 := Lib.hid (show Below W1.heap.size W1 W2 by rw [hW2]; exact (Below.refl _ _).alloc (Nat.le_refl _) _)
  have HG := Lib.hid (show ∀ W, Below W2.heap.size W2 W → ∀ i (h : i < knG.length), W.cell? ⟨W1.heap.size, i, none⟩ = some (.int .i64 knG[i]) from fun W hb i h => by
    have hx : Blk W2 W1.heap.size 3 (LQ knG).toArray := by rw [hW2]; exact Blk.new _ _ _
    rw [(hx.below hb).cell i, List.getElem?_toArray, LQ_at h])
  go_wp2
  rw [← hW2]
  clear hW2
  go_loopw [26] (fun vi wr => ∃ i : Nat, vi = .int .i64 i ∧ i ≤ 10 ∧ Below W2.heap.size W2 wr) (fun vi _ => 10 - (intOf vi).toNat)
  case atStart => exact ⟨0, rfl, Nat.zero_le _, Below.refl _ _⟩
  case round =>
    obtain ⟨i, rfl, hi, hB⟩ := hrel
    have HBR := Lib.hid hB
    clear hB
    by_cases hlt : i < 10
    · have hz : (i : Int) < 10 := by omega
      have g0 := HG.out wr HBR.out i hlt
      obtain ⟨gl, hgl⟩ : ∃ gl, gl = knG[i]'hlt := ⟨_, rfl⟩
      rw [← hgl] at g0
      obtain ⟨W3, hW3⟩ : ∃ W3, W3 = wr.alloc (.cells #[.int .i64 (-1), .int .i64 0, .int .i64 1, .int .i64 33, .int .i64 34, .int .i64 50, .int .i64 67, .int .i64 99, .int .i64 100, .int .i64 101, .int .i64 9223372036854775807] 3) := ⟨_, rfl⟩
      have HB3 := Lib.hid (show Below wr.heap.size wr W3 by rw [hW3]; exact (Below.refl _ _).alloc (Nat.le_refl _) _)
      have HP := Lib.hid (show ∀ W, Below W3.heap.size W3 W → ∀ i (h : i < knP.length), W.cell? ⟨wr.heap.size, i, none⟩ = some (.int .i64 knP[i]) from fun W hb i h => by
        have hx : Blk W3 wr.heap.size 3 (LQ knP).toArray := by rw [hW3]; exact Blk.new _ _ _
        rw [(hx.below hb).cell i, List.getElem?_toArray, LQ_at h])
      have HB23 := Lib.hid (below_then HBR.out HB3.out HBR.out.size)
      have HB13 := Lib.hid (below_then HB2.out HB23.out HB2.out.size)
      clear hgl
      go_wp2
      rw [← hW3]
      clear hW3 g0
      go_loopw [32] (fun vj w4 => ∃ j : Nat, vj = .int .i64 j ∧ j ≤ 11 ∧ Below W3.heap.size W3 w4) (fun vj _ => 11 - (intOf vj).toNat)
      case atStart => exact ⟨0, rfl, Nat.zero_le _, Below.refl _ _⟩
      case round =>
        obtain ⟨j, rfl, hj, hB⟩ := hrel
        have HBJ := Lib.hid hB
        clear hB
        by_cases hlt2 : j < 11
        · have jz : (j : Int) < 11 := by omega
          have g1 := HP.out wr HBJ.out j hlt2
          have hin := Lib.hid (all_in (l := knP) (by decide) hlt2)
          obtain ⟨pt, hpt⟩ : ∃ pt, pt = knP[j]'hlt2 := ⟨_, rfl⟩
          rw [← hpt] at g1 hin
          clear hpt
          have HBa := Lib.hid (below_then HB13.out HBJ.out HB13.out.size)
          have HQ1 := Lib.hid (HC1.out wr HBa.out gl pt)
          go_wp2_with fail
          refine HQ1.out.mono ?_
          rintro e w5 ⟨rfl, hb5⟩
          have HBb := Lib.hid (below_then HBa.out hb5 HBa.out.size)
          have HJ5 := Lib.hid (below_then HBJ.out hb5 HBJ.out.size)
          have HQ2 := Lib.hid (HC3.out w5 HBb.out gl pt hin.out)
          clear hb5 HQ1 g1
          go_wp2_with fail
          refine HQ2.out.mono ?_
          rintro e w6 ⟨rfl, hb6⟩
          have HBc := Lib.hid (below_then HBb.out hb6 HBb.out.size)
          have HJ6 := Lib.hid (below_then HJ5.out hb6 HJ5.out.size)
          have HQ3 := Lib.hid (HC2.out w6 HBc.out gl pt)
          clear hb6 HQ2
          go_wp2_with fail
          refine HQ3.out.mono ?_
          rintro e w7 ⟨rfl, hb7⟩
          have HJ7 := Lib.hid (below_then HJ6.out hb7 HJ6.out.size)
          clear hb7 HQ3
          go_wp2
          go_roundw
          case rel => exact ⟨j + 1, by go_num, hlt2, HJ7.out⟩
          case measure => simp [intOf]; omega
        · obtain rfl : j = 11 := by omega
          have HR2 := Lib.hid (below_then HB23.out HBJ.out HB23.out.size)
          go_wp2
          go_roundw
          case rel => exact ⟨i + 1, by go_num, hlt, HR2.out⟩
          case measure => simp [intOf]; omega
    · have hz : ¬ (i : Int) < 10 := by omega
      clear hlt hi
      have HBw := Lib.hid (below_then HB1.out (below_then HB2.out HBR.out HB2.out.size) HB1.out.size)
      obtain ⟨W3, hW3⟩ : ∃ W3, W3 = wr.alloc (.cells #[.int .i64 (-1), .int .i64 0, .int .i64 1, .int .i64 2, .int .i64 3000, .int .i64 1000001, .int .i64 9223372036854775807] 2) := ⟨_, rfl⟩
      have HB3 := Lib.hid (show Below wr.heap.size wr W3 by rw [hW3]; exact (Below.refl _ _).alloc (Nat.le_refl _) _)
      have HP := Lib.hid (show ∀ W, Below W3.heap.size W3 W → ∀ i (h : i < knN.length), W.cell? ⟨wr.heap.size, i, none⟩ = some (.int .i64 knN[i]) from fun W hb i h => by
        have hx : Blk W3 wr.heap.size 2 (LQ knN).toArray := by rw [hW3]; exact Blk.new _ _ _
        rw [(hx.below hb).cell i, List.getElem?_toArray, LQ_at h])
      have HBw3 := Lib.hid (below_then HBw.out HB3.out HBw.out.size)
      go_wp2
      rw [← hW3]
      clear hW3
      go_loopw [60] (fun vi w4 => ∃ i : Nat, vi = .int .i64 i ∧ i ≤ 7 ∧ Below W3.heap.size W3 w4) (fun vi _ => 7 - (intOf vi).toNat)
      case atStart => exact ⟨0, rfl, Nat.zero_le _, Below.refl _ _⟩
      case round =>
        obtain ⟨i, rfl, hi, hB⟩ := hrel
        have HBJ := Lib.hid hB
        clear hB
        by_cases hlt2 : i < 7
        · have jz : (i : Int) < 7 := by omega
          have g1 := HP.out wr HBJ.out i hlt2
          have hin := Lib.hid (all_in (l := knN) (by decide) hlt2)
          obtain ⟨nn, hnn⟩ : ∃ nn, nn = knN[i]'hlt2 := ⟨_, rfl⟩
          rw [← hnn] at g1 hin
          clear hnn
          obtain ⟨W4, hW4⟩ : ∃ W4, W4 = wr.alloc (.cells #[.int .i64 (-1), .int .i64 0, .int .i64 1, .int .i64 300, .int .i64 1000000, .int .i64 1000001, .int .i64 (-9223372036854775808)] 2) := ⟨_, rfl⟩
          have HB4 := Lib.hid (show Below wr.heap.size wr W4 by rw [hW4]; exact (Below.refl _ _).alloc (Nat.le_refl _) _)
          have HQ := Lib.hid (show ∀ W, Below W4.heap.size W4 W → ∀ i (h : i < knF.length), W.cell? ⟨wr.heap.size, i, none⟩ = some (.int .i64 knF[i]) from fun W hb i h => by
            have hx : Blk W4 wr.heap.size 2 (LQ knF).toArray := by rw [hW4]; exact Blk.new _ _ _
            rw [(hx.below hb).cell i, List.getElem?_toArray, LQ_at h])
          have HB34 := Lib.hid (below_then HBJ.out HB4.out HBJ.out.size)
          go_wp2
          rw [← hW4]
          clear hW4 g1
          go_loopw [66] (fun vj w4 => ∃ j : Nat, vj = .int .i64 j ∧ j ≤ 7 ∧ Below W4.heap.size W4 w4) (fun vj _ => 7 - (intOf vj).toNat)
          case atStart => exact ⟨0, rfl, Nat.zero_le _, Below.refl _ _⟩
          case round =>
            obtain ⟨j, rfl, hj, hB⟩ := hrel
            have HBK := Lib.hid hB
            clear hB
            by_cases hlt3 : j < 7
            · have kz : (j : Int) < 7 := by omega
              have g2 := HQ.out wr HBK.out j hlt3
              have hin2 := Lib.hid (all_in (l := knF) (by decide) hlt3)
              obtain ⟨ff, hff⟩ : ∃ ff, ff = knF[j]'hlt3 := ⟨_, rfl⟩
              rw [← hff] at g2 hin2
              clear hff
              have HL := Lib.hid (HLI.out ff nn hin2.out hin.out wr)
              go_wp2_with fail
              refine HL.out.mono ?_
              rintro e w5 ⟨rfl, hb5⟩
              have HK5 := Lib.hid (below_then HBK.out hb5 HBK.out.size)
              clear hb5 HL g2
              go_wp2
              go_roundw
              case rel => exact ⟨j + 1, by go_num, hlt3, HK5.out⟩
              case measure => simp [intOf]; omega
            · obtain rfl : j = 7 := by omega
              have HR2 := Lib.hid (below_then HB34.out HBK.out HB34.out.size)
              go_wp2
              go_roundw
              case rel => exact ⟨i + 1, by go_num, hlt2, HR2.out⟩
              case measure => simp [intOf]; omega
        · obtain rfl : i = 7 := by omega
          have HBz := Lib.hid (below_then HBw3.out HBJ.out HBw3.out.size)
          have HWF := Lib.hid (HWK.out wr)
          go_wp2_with fail
          refine (HTP.out _).mono ?_
          rintro e w5 ⟨rfl, rfl⟩
          go_wp2_with fail
          refine HWF.out.mono ?_
          rintro e w6 ⟨rfl, hb6⟩
          have HBy := Lib.hid (below_then HBz.out hb6 HBz.out.size)
          clear hb6
          go_wp2
          go_ret
          exact ⟨rfl, HBy.out⟩
end Go.Proofs.Ytcblhfjgdkbinaa.Re
