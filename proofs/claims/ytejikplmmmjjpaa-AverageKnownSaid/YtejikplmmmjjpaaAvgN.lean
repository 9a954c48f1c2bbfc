/- The walk of the closed law AverageKnown, out of the contracts of layer 15; no condition. -/
import Derived.Test.YtejikplmmmjjpaaAvgV
import Derived.Test.YtejikplmmmjjpaaAvgC
namespace Go.Proofs.Ytejikplmmmjjpaa.Avg
open Go.RowKit Go.Proofs.Ytejikplmmmjjpaa.Mem Go.Proofs.Ytejikplmmmjjpaa.AvgM
set_option linter.unusedVariables false

def stepA (s : Int) (p : Int × Int) (x : Int) : Int × Int := (addv s p.1 p.2 x, p.2 + 1)
def foldA (s : Int) (zs : List Int) : Int × Int := zs.foldl (stepA s) (0, 0)
theorem foldA_snoc (s : Int) (zs : List Int) (k : Nat) (h : k < zs.length) : foldA s (zs.take (k + 1)) = (addv s (foldA s (zs.take k)).1 (foldA s (zs.take k)).2 (zs.getD k 0), (foldA s (zs.take k)).2 + 1) := by
  rw [List.take_succ_eq_append_getElem h]
  unfold foldA
  rw [List.foldl_append]
  simp [stepA, List.getD_eq_getElem?_getD, h]
def FlV (w : World) (s : Int) (g : Nat) (p : Int × Int) (n : Nat) (wr : World) : Prop :=
  0 ≤ p.1 ∧ p.1 ≤ 4611686018427387904 ∧ p.2 = n ∧ Av wr g s p.1 p.2 ∧ Below w.heap.size w wr
theorem filled_val (s : Int) (a : Option Addr) (cap : Nat) (zs : List Int) (w : World) (hs0 : 0 ≤ s) (hs1 : s ≤ 30) (hlen : zs.length ≤ 1000) (hz : ∀ k, k < zs.length → 0 ≤ zs.getD k 0 ∧ zs.getD k 0 ≤ 1073741824) (hrd : Rd w a zs.length zs) (len : Nat) (hl : len = zs.length) :
    Calls Try.prog 17 #[.int .i64 s, .slice a len cap] w fun e w' => e = .returned (.pointer (some ⟨w.heap.size, 0, none⟩)) ∧ Av w' w.heap.size s (foldA s zs).1 (foldA s zs).2 ∧ Below w.heap.size w w' := by
  rw [← hl] at hlen hz hrd
  have HRD := Lib.hid hrd
  have HL := Lib.hid hl
  have HZ := Lib.hid hz
  clear hrd hl hz
  go_enter Try.func17, Try.ntmps17
  go_wp2_with fail
  refine (new_ok s _ hs0 hs1).mono ?_
  rintro e w1 ⟨rfl, hw1⟩
  have A1 := Lib.hid (hw1 ▸ av_new w s : Av w1 w.heap.size s 0 0)
  have B1 := Lib.hid (hw1 ▸ (Below.refl w.heap.size w).alloc (Nat.le_refl _) _ : Below w.heap.size w w1)
  clear hw1
  go_wp2_with fail
  go_loopw [7] (fun v wr => ∃ k : Nat, k ≤ len ∧ v = .int .i64 k ∧ FlV w s w.heap.size (foldA s (zs.take k)) k wr) (fun v _ => len - (intOf v).toNat)
  case atStart => exact ⟨0, Nat.zero_le _, rfl, show FlV w s w.heap.size (0, 0) 0 w1 from ⟨by decide, by decide, rfl, A1.out, B1.out⟩⟩
  case round =>
    obtain ⟨k, hk, rfl, hv0, hv1, hc0, hA, hB⟩ := hrel
    have HA := Lib.hid hA
    have HB := Lib.hid hB
    have HC := Lib.hid hc0
    clear hA hB hc0
    by_cases hlt : k < len
    · obtain ⟨b, off, rfl, hx, hcell⟩ := HRD.out (by omega)
      have hcw : wr.cell? ⟨b, off + k, none⟩ = some (.int .i64 (zs.getD k 0)) := by rw [HB.out.cell (p := ⟨b, off + k, none⟩) hx]; exact hcell k hlt
      have hn := HZ.out k hlt
      have HS := Lib.hid (foldA_snoc s zs k (by rw [← HL.out]; exact hlt))
      generalize zs.getD k 0 = n at *
      generalize foldA s (zs.take k) = p at *
      clear hcell
      obtain ⟨hn0, hn1⟩ := hn
      go_wp2_with fail
      have hab := addv_bounds (s := s) (c := p.2) hv0 hv1 hn0 hn1
      refine (add_ok n HA.out hs0 hs1 hv0 hv1 (by have := HC.out; omega) (by have := HC.out; omega) hn0 hn1).mono ?_
      rintro e wa ⟨rfl, hma, hA1⟩
      have HB2 : Hid (FlV w s w.heap.size (foldA s (zs.take (k + 1))) (k + 1) wa) := by
        unfold Hid
        rw [HS.out]
        exact ⟨hab.1, hab.2, by have := HC.out; simp only; omega, hA1, Below.then_mod HB.out hma (fun i hi h => by omega) (Nat.le_refl _)⟩
      clear hma hA1 hab
      go_wp2
      go_roundw
      case rel => exact ⟨k + 1, by omega, by go_num, HB2.out⟩
      case measure => simp [intOf]; omega
    · have hkl : zs.take k = zs := List.take_of_length_le (by rw [← HL.out]; omega)
      have HA2 := Lib.hid (show Av wr w.heap.size s (foldA s zs).1 (foldA s zs).2 by rw [← hkl]; exact HA.out)
      clear hkl
      go_wp2
      go_ret
      exact ⟨rfl, HA2.out, HB.out⟩
/-- A block of numbers is a slice that can be read. -/
theorem rd_blk {w : World} {g : Nat} {t : TypeId} {zs : List Int} (h : Blk w g t (zs.map (Value.int .i64)).toArray) : Rd w (some ⟨g, 0, none⟩) zs.length zs := fun _ =>
  ⟨g, 0, rfl, h.lt, fun i hi => by rw [Nat.zero_add, h.cell i]; simp [List.getD_eq_getElem?_getD, hi]⟩
theorem rd_cell {w : World} {g : Nat} {t : TypeId} {zs : List Int} (h : Blk w g t (zs.map (Value.int .i64)).toArray) (k : Nat) (hk : k < zs.length) : w.cell? ⟨g, k, none⟩ = some (.int .i64 (zs.getD k 0)) := by
  rw [h.cell k]; simp [List.getD_eq_getElem?_getD, hk]
def wantL : List Int := [1, 1, 2, 1, 1, 2, 4, 1, 1, 2, 1, 1, 2, 4, 8]
def ringsL : List Int := [3, 6, 12, 15, 18, 24, 36]
theorem want_lub : ∀ k, k < 15 → wantL.getD k 0 = (lub (k + 1) : Int) := by decide +kernel
theorem k1 : foldA 2 [8, 0, 0] = (8589934592, 3) := by decide +kernel
theorem k2 : addv 2 8589934592 3 4 = 10737418240 := by decide +kernel
theorem k3 : foldA 0 [11] = (47244640256, 1) := by decide +kernel
theorem k4 : foldA 0 [10] = (42949672960, 1) := by decide +kernel
theorem k5 : foldA 30 [1073741824] = (4611686018427387904, 1) := by decide +kernel
theorem k6 : foldA 0 [] = (0, 0) := by decide +kernel
theorem l1 : lub 4611686018427387903 = 2305843009213693952 := by decide +kernel
theorem l2 : lub 4611686018427387904 = 1 := by decide +kernel
/-- The bell of 3 behind k calls: what is left, its round, how often it rang. -/
def bst : Nat → Int × Nat × Nat
  | 0 => (3, 1, 0)
  | k + 1 => if 2 ≤ (bst k).1 then ((bst k).1 - 1, (bst k).2.1, (bst k).2.2) else (3 * (lub ((bst k).2.1 + 1) : Int), (bst k).2.1 + 1, (bst k).2.2 + 1)
theorem bst_ok : ∀ k, k < 36 → 1 ≤ (bst k).1 ∧ (bst k).1 ≤ 1000 ∧ 1 ≤ (bst k).2.1 ∧ (bst k).2.1 ≤ 1000 ∧ (¬ 2 ≤ (bst k).1 → (bst k).2.2 < 7 ∧ ringsL.getD (bst k).2.2 0 = (k : Int) + 1) := by decide +kernel
theorem bst_end : bst 36 = (bst 36) ∧ (bst 36).2.1 = 8 ∧ (bst 36).2.2 = 7 := by decide +kernel
set_option maxRecDepth 100000 in
set_option maxHeartbeats 4000000 in
theorem known_ok (w : World) : Calls Try.prog 9 #[] w fun e w' => e = .returned (.bool true) ∧ Below w.heap.size w w' := by
  go_enter Try.func9, Try.ntmps9
  go_wp2_with fail
  obtain ⟨V0, hV0⟩ : ∃ V, V = w.alloc (.cells #[.int .i64 8, .int .i64 0, .int .i64 0] 2) := ⟨_, rfl⟩
  rw [← hV0]
  have HR0 := Lib.hid (show Rd V0 (some ⟨w.heap.size, 0, none⟩) 3 [8, 0, 0] from rd_blk (zs := [8, 0, 0]) (hV0 ▸ Blk.new _ _ _))
  have HVB0 := Lib.hid (hV0 ▸ ((Below.refl w.heap.size w)).alloc ((Below.refl w.heap.size w)).size _ : Below w.heap.size w V0)
  clear hV0
  refine (filled_val 2 _ _ [8, 0, 0] V0 (by omega) (by omega) (by decide) (by decide) HR0.out _ rfl).mono ?_
  rintro e w1 ⟨rfl, hA0, hB0⟩
  rw [k1] at hA0
  have HA := Lib.hid hA0
  have HB0 := Lib.hid (below_then HVB0.out hB0 (HVB0.out).size)
  clear hA0 hB0
  have hg0 : w.heap.size ≤ V0.heap.size := HVB0.out.size
  generalize V0.heap.size = g0 at *
  go_wp2_with fail
  refine (value_any HA.out).mono ?_
  rintro e w' ⟨rfl, rfl⟩
  go_wp2_with fail
  refine (add_ok 4 HA.out (by omega) (by omega) (by omega) (by omega) (by omega) (by omega) (by omega) (by omega)).mono ?_
  rintro e wa ⟨rfl, hma, hA1⟩
  have HA1 := Lib.hid (show Av wa g0 2 10737418240 4 from k2 ▸ hA1)
  have HBa := Lib.hid (Below.then_mod HB0.out hma (fun i hi h => by have := hg0; omega) (Nat.le_refl _))
  clear hma hA1
  go_wp2_with fail
  refine (value_any HA1.out).mono ?_
  rintro e w' ⟨rfl, rfl⟩
  go_wp2_with fail
  refine (add_bad (-1) g0 (by omega)).mono ?_
  rintro e w' ⟨rfl, rfl⟩
  go_wp2_with fail
  refine (add_bad 1073741825 g0 (by omega)).mono ?_
  rintro e w' ⟨rfl, rfl⟩
  go_wp2_with fail
  refine (count_any HA1.out).mono ?_
  rintro e w' ⟨rfl, rfl⟩
  go_wp2_with fail
  obtain ⟨V9, hV9⟩ : ∃ V, V = wa.alloc (.cells #[.int .i64 1, .int .i64 1, .int .i64 2, .int .i64 1, .int .i64 1, .int .i64 2, .int .i64 4, .int .i64 1, .int .i64 1, .int .i64 2, .int .i64 1, .int .i64 1, .int .i64 2, .int .i64 4, .int .i64 8] 2) := ⟨_, rfl⟩
  rw [← hV9]
  have HW9 := Lib.hid (show Blk V9 wa.heap.size 2 (wantL.map (Value.int .i64)).toArray from hV9 ▸ Blk.new _ _ _)
  have HV9 := Lib.hid (hV9 ▸ HBa.out.alloc HBa.out.size _ : Below w.heap.size w V9)
  clear hV9
  generalize wa.heap.size = gw at *
  go_loop [3, 4, 5] (fun i x y => ∃ k : Nat, k ≤ 15 ∧ i = .int .i64 k) (fun i _ _ => 15 - (intOf i).toNat)
  case atStart => exact ⟨0, by omega, rfl⟩
  case round =>
  obtain ⟨k, hk, rfl⟩ := hrel
  by_cases hlt : k < 15
  · have hcw : V9.cell? ⟨gw, k, none⟩ = some (.int .i64 (lub (k + 1) : Int)) := by rw [rd_cell HW9.out k hlt, want_lub k hlt]
    have hlk := Lib.hid (luby_ok (k + 1) V9 (by omega) (by omega))
    have e1 : (((k + 1 : Nat) : Int)) = (k : Int) + 1 := by omega
    rw [e1] at hlk
    clear e1
    generalize lub (k + 1) = q at *
    go_wp2_with fail
    refine hlk.out.mono ?_
    rintro e w' ⟨rfl, rfl⟩
    go_wp2
    go_round
    case rel => exact ⟨k + 1, by omega, by go_num⟩
    case measure => simp [intOf]; omega
  have hk15 : k = 15 := by omega
  subst hk15
  clear hlt hk
  go_wp2_with fail
  refine (luby_ok 4611686018427387903 _ (by omega) (by omega)).mono ?_
  rintro e w' ⟨rfl, rfl⟩
  rw [l1]
  go_wp2_with fail
  refine (luby_top _).mono ?_
  rintro e w' ⟨rfl, rfl⟩
  go_wp2_with fail
  refine (luby_ok 4611686018427387904 _ (by omega) (by omega)).mono ?_
  rintro e w' ⟨rfl, rfl⟩
  rw [l2]
  go_wp2_with fail
  refine (luby_bad 0 _ (by omega)).mono ?_
  rintro e w' ⟨rfl, rfl⟩
  go_wp2_with fail
  obtain ⟨V1, hV1⟩ : ∃ V, V = V9.alloc (.cells #[.int .i64 11] 2) := ⟨_, rfl⟩
  rw [← hV1]
  have HR1 := Lib.hid (show Rd V1 (some ⟨V9.heap.size, 0, none⟩) 1 [11] from rd_blk (zs := [11]) (hV1 ▸ Blk.new _ _ _))
  have HVB1 := Lib.hid (hV1 ▸ (HV9.out).alloc (HV9.out).size _ : Below w.heap.size w V1)
  clear hV1
  refine (filled_val 0 _ _ [11] V1 (by omega) (by omega) (by decide) (by decide) HR1.out _ rfl).mono ?_
  rintro e w2 ⟨rfl, hA1, hB1⟩
  rw [k3] at hA1
  have HP := Lib.hid hA1
  have HB1 := Lib.hid (below_then HVB1.out hB1 (HVB1.out).size)
  clear hA1 hB1
  generalize V1.heap.size = g1 at *
  go_wp2_with fail
  obtain ⟨V2, hV2⟩ : ∃ V, V = w2.alloc (.cells #[.int .i64 10] 2) := ⟨_, rfl⟩
  rw [← hV2]
  have HR2 := Lib.hid (show Rd V2 (some ⟨w2.heap.size, 0, none⟩) 1 [10] from rd_blk (zs := [10]) (hV2 ▸ Blk.new _ _ _))
  have HVB2 := Lib.hid (hV2 ▸ (HB1.out).alloc (HB1.out).size _ : Below w.heap.size w V2)
  have HPv := Lib.hid (show Av V2 g1 0 47244640256 1 from hV2 ▸ Blk.alloc HP.out _)
  clear hV2
  refine (filled_val 0 _ _ [10] V2 (by omega) (by omega) (by decide) (by decide) HR2.out _ rfl).mono ?_
  rintro e w3 ⟨rfl, hA2, hB2⟩
  rw [k4] at hA2
  have HQ := Lib.hid hA2
  have HB2 := Lib.hid (below_then HVB2.out hB2 (HVB2.out).size)
  have HPvw := Lib.hid (show Av w3 g1 0 47244640256 1 from Blk.below HPv.out hB2)
  clear hA2 hB2
  generalize V2.heap.size = g2 at *
  go_wp2_with fail
  obtain ⟨V3, hV3⟩ : ∃ V, V = w3.alloc (.cells #[.int .i64 1073741824] 2) := ⟨_, rfl⟩
  rw [← hV3]
  have HR3 := Lib.hid (show Rd V3 (some ⟨w3.heap.size, 0, none⟩) 1 [1073741824] from rd_blk (zs := [1073741824]) (hV3 ▸ Blk.new _ _ _))
  have HVB3 := Lib.hid (hV3 ▸ (HB2.out).alloc (HB2.out).size _ : Below w.heap.size w V3)
  have HPvwv := Lib.hid (show Av V3 g1 0 47244640256 1 from hV3 ▸ Blk.alloc HPvw.out _)
  have HQv := Lib.hid (show Av V3 g2 0 42949672960 1 from hV3 ▸ Blk.alloc HQ.out _)
  clear hV3
  refine (filled_val 30 _ _ [1073741824] V3 (by omega) (by omega) (by decide) (by decide) HR3.out _ rfl).mono ?_
  rintro e w4 ⟨rfl, hA3, hB3⟩
  rw [k5] at hA3
  have HT := Lib.hid hA3
  have HB3 := Lib.hid (below_then HVB3.out hB3 (HVB3.out).size)
  have HPvwvw := Lib.hid (show Av w4 g1 0 47244640256 1 from Blk.below HPvwv.out hB3)
  have HQvw := Lib.hid (show Av w4 g2 0 42949672960 1 from Blk.below HQv.out hB3)
  clear hA3 hB3
  generalize V3.heap.size = g3 at *
  go_wp2_with fail
  refine (filled_val 0 _ _ [] w4 (by omega) (by omega) (by decide) (by decide) (fun h => absurd h (by simp)) _ rfl).mono ?_
  rintro e w5 ⟨rfl, hA4, hB4⟩
  rw [k6] at hA4
  have HZ := Lib.hid hA4
  have HB4 := Lib.hid (below_then HB3.out hB4 (HB3.out).size)
  have HPvwvww := Lib.hid (show Av w5 g1 0 47244640256 1 from Blk.below HPvwvw.out hB4)
  have HQvww := Lib.hid (show Av w5 g2 0 42949672960 1 from Blk.below HQvw.out hB4)
  have HTw := Lib.hid (show Av w5 g3 30 4611686018427387904 1 from Blk.below HT.out hB4)
  clear hA4 hB4
  generalize w4.heap.size = g4 at *
  go_wp2_with fail
  refine (above_ok 110 HPvwvww.out HQvww.out (by omega) (by omega) (by omega) (by omega)).mono ?_
  rintro e w' ⟨rfl, rfl⟩
  rw [show abv 47244640256 42949672960 110 = false by decide +kernel]
  go_wp2_with fail
  refine (above_ok 109 HPvwvww.out HQvww.out (by omega) (by omega) (by omega) (by omega)).mono ?_
  rintro e w' ⟨rfl, rfl⟩
  rw [show abv 47244640256 42949672960 109 = true by decide +kernel]
  go_wp2_with fail
  refine (above_ok 111 HPvwvww.out HQvww.out (by omega) (by omega) (by omega) (by omega)).mono ?_
  rintro e w' ⟨rfl, rfl⟩
  rw [show abv 47244640256 42949672960 111 = false by decide +kernel]
  go_wp2_with fail
  refine (above_ok 99 HTw.out HTw.out (by omega) (by omega) (by omega) (by omega)).mono ?_
  rintro e w' ⟨rfl, rfl⟩
  rw [show abv 4611686018427387904 4611686018427387904 99 = true by decide +kernel]
  go_wp2_with fail
  refine (above_ok 100 HTw.out HTw.out (by omega) (by omega) (by omega) (by omega)).mono ?_
  rintro e w' ⟨rfl, rfl⟩
  rw [show abv 4611686018427387904 4611686018427387904 100 = false by decide +kernel]
  go_wp2_with fail
  refine (above_ok 10000 HTw.out HZ.out (by omega) (by omega) (by omega) (by omega)).mono ?_
  rintro e w' ⟨rfl, rfl⟩
  rw [show abv 4611686018427387904 0 10000 = true by decide +kernel]
  go_wp2_with fail
  refine (above_ok 0 HZ.out HTw.out (by omega) (by omega) (by omega) (by omega)).mono ?_
  rintro e w' ⟨rfl, rfl⟩
  rw [show abv 0 4611686018427387904 0 = false by decide +kernel]
  go_wp2_with fail
  refine (above_ok (-1) HTw.out HZ.out (by omega) (by omega) (by omega) (by omega)).mono ?_
  rintro e w' ⟨rfl, rfl⟩
  rw [show abv 4611686018427387904 0 (-1) = false by decide +kernel]
  go_wp2_with fail
  refine (above_ok 10001 HTw.out HZ.out (by omega) (by omega) (by omega) (by omega)).mono ?_
  rintro e w' ⟨rfl, rfl⟩
  rw [show abv 4611686018427387904 0 10001 = false by decide +kernel]
  go_wp2_with fail
  refine (newbell_ok 3 _ (by omega) (by omega)).mono ?_
  rintro e wb ⟨rfl, hwb⟩
  have HE := Lib.hid (show Bl wb w5.heap.size 3 3 1 from hwb ▸ bell_new w5 3)
  have HBe := Lib.hid (hwb ▸ HB4.out.alloc HB4.out.size _ : Below w.heap.size w wb)
  have hge : w.heap.size ≤ w5.heap.size := HB4.out.size
  clear hwb
  generalize w5.heap.size = gb at *
  go_wp2_with fail
  obtain ⟨V8, hV8⟩ : ∃ V, V = wb.alloc (.cells #[.int .i64 3, .int .i64 6, .int .i64 12, .int .i64 15, .int .i64 18, .int .i64 24, .int .i64 36] 3) := ⟨_, rfl⟩
  rw [← hV8]
  have HR8 := Lib.hid (show Blk V8 wb.heap.size 3 (ringsL.map (Value.int .i64)).toArray from hV8 ▸ Blk.new _ _ _)
  have HV8 := Lib.hid (hV8 ▸ HBe.out.alloc HBe.out.size _ : Below w.heap.size w V8)
  have HE8 := Lib.hid (show Bl V8 gb 3 3 1 from hV8 ▸ Blk.alloc HE.out _)
  have hgr : gb < wb.heap.size := HE.out.lt
  clear hV8
  generalize wb.heap.size = gr at *
  go_loopw [23, 24] (fun a i wr => ∃ k : Nat, k ≤ 36 ∧ i = .int .i64 ((k : Int) + 1) ∧ a = .int .i64 ((bst k).2.2 : Nat) ∧ Bl wr gb 3 (bst k).1 ((bst k).2.1 : Nat) ∧ Blk wr gr 3 (ringsL.map (Value.int .i64)).toArray ∧ Below w.heap.size w wr) (fun _ i _ => 37 - (intOf i).toNat)
  case atStart => exact ⟨0, by omega, rfl, rfl, HE8.out, HR8.out, HV8.out⟩
  case round =>
  obtain ⟨k, hk, rfl, rfl, hE, hR, hB⟩ := hrel
  have HE9 := Lib.hid hE
  have HR9 := Lib.hid hR
  have HB9 := Lib.hid hB
  clear hE hR hB
  by_cases hlt : k < 36
  · obtain ⟨h1, h2, h3, h4, h5⟩ := bst_ok k hlt
    have HS := Lib.hid (show bst (k + 1) = if 2 ≤ (bst k).1 then ((bst k).1 - 1, (bst k).2.1, (bst k).2.2) else (3 * (lub ((bst k).2.1 + 1) : Int), (bst k).2.1 + 1, (bst k).2.2 + 1) from rfl)
    have H5 := Lib.hid h5
    clear h5
    generalize bst k = q at *
    obtain ⟨l, r, a⟩ := q
    dsimp only at h1 h2 h3 h4
    go_wp2_with fail
    by_cases h6 : 2 ≤ l
    · refine (tick_no HE9.out h6 (by omega)).mono ?_
      rintro e wn ⟨rfl, hmn, hEn⟩
      have HX := Lib.hid (show Bl wn gb 3 (bst (k + 1)).1 ((bst (k + 1)).2.1 : Nat) ∧ Blk wn gr 3 (ringsL.map (Value.int .i64)).toArray ∧ Below w.heap.size w wn ∧ (bst (k + 1)).2.2 = a by
        rw [HS.out, if_pos (by first | omega | (dsimp only; omega))]
        exact ⟨hEn, Blk.mod HR9.out hmn (by omega), Below.then_mod HB9.out hmn (fun i hi h => by omega) (Nat.le_refl _), rfl⟩)
      clear hmn hEn
      go_wp2
      go_roundw
      case rel =>
        obtain ⟨x1, x2, x3, x4⟩ := HX.out
        exact ⟨k + 1, by omega, by go_num, by rw [x4], x1, x2, x3⟩
      case measure => simp [intOf]; omega
    · obtain ⟨h7, h8⟩ := H5.out (by omega)
      have h8' := Lib.hid h8
      refine (tick_yes HE9.out (by omega) (by omega) h3 (by omega) (by omega) (by omega)).mono ?_
      rintro e wn ⟨rfl, hmn, hEn⟩
      have HX := Lib.hid (show Bl wn gb 3 (bst (k + 1)).1 ((bst (k + 1)).2.1 : Nat) ∧ Blk wn gr 3 (ringsL.map (Value.int .i64)).toArray ∧ Below w.heap.size w wn ∧ (bst (k + 1)).2.2 = a + 1 by
        rw [HS.out, if_neg (by first | omega | (dsimp only; omega))]
        exact ⟨hEn, Blk.mod HR9.out hmn (by omega), Below.then_mod HB9.out hmn (fun i hi h => by omega) (Nat.le_refl _), rfl⟩)
      have hc8 : wn.cell? ⟨gr, a, none⟩ = some (.int .i64 ((k : Int) + 1)) := by
        have := rd_cell HX.out.2.1 a h7
        rw [this, h8]
      clear hmn hEn h8
      go_wp2
      go_roundw
      case rel =>
        obtain ⟨x1, x2, x3, x4⟩ := HX.out
        exact ⟨k + 1, by omega, by go_num, by rw [x4]; go_num, x1, x2, x3⟩
      case measure => simp [intOf]; omega
  have hk36 : k = 36 := by omega
  subst hk36
  clear hlt hk
  obtain ⟨_, hr8, ha7⟩ := bst_end
  rw [ha7]
  have HEa := Lib.hid (show Bl wr gb 3 (bst 36).1 8 from by have := HE9.out; rw [hr8] at this; exact this)
  clear hr8 ha7
  go_wp2_with fail
  refine (new_bad (-1) _ (by omega)).mono ?_
  rintro e w' ⟨rfl, rfl⟩
  go_wp2_with fail
  refine (new_bad 31 _ (by omega)).mono ?_
  rintro e w' ⟨rfl, rfl⟩
  go_wp2_with fail
  refine (newbell_bad 0 _ (by omega)).mono ?_
  rintro e w' ⟨rfl, rfl⟩
  go_wp2_with fail
  refine (newbell_bad 2147483648 _ (by omega)).mono ?_
  rintro e w' ⟨rfl, rfl⟩
  go_wp2_with fail
  refine (round_any HEa.out).mono ?_
  rintro e w' ⟨rfl, rfl⟩
  go_wp2_with fail
  refine (add_nil 1).mono ?_
  rintro e w' ⟨rfl, rfl⟩
  go_wp2_with fail
  refine (value_nil _).mono ?_
  rintro e w' ⟨rfl, rfl⟩
  go_wp2_with fail
  refine (count_nil _).mono ?_
  rintro e w' ⟨rfl, rfl⟩
  go_wp2_with fail
  refine (above_nil1 _ 5 _).mono ?_
  rintro e w' ⟨rfl, rfl⟩
  go_wp2_with fail
  refine (above_nil2 _ 5 _).mono ?_
  rintro e w' ⟨rfl, rfl⟩
  go_wp2_with fail
  refine (tick_nil _).mono ?_
  rintro e w' ⟨rfl, rfl⟩
  go_wp2_with fail
  refine (round_nil _).mono ?_
  rintro e w' ⟨rfl, rfl⟩
  go_wp2_with fail
  refine (works_ok _).mono ?_
  rintro e w3 ⟨rfl, hb3⟩
  have HB3' := Lib.hid hb3
  clear hb3
  go_wp2
  go_ret
  exact ⟨rfl, below_then HB9.out HB3'.out HB9.out.size⟩
end Go.Proofs.Ytejikplmmmjjpaa.Avg
