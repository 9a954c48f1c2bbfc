/- The walk of the reference's bell, and of the law AverageBells: for every period and every count it answers true, and writes nothing that was there. -/
import Derived.Test.YtejikplmmmjjpaaAvgC
namespace Go.Proofs.Ytejikplmmmjjpaa.Avg
open Go.RowKit Go.Proofs.Ytejikplmmmjjpaa.Mem Go.Proofs.Ytejikplmmmjjpaa.AvgM
set_option linter.unusedVariables false

theorem rtick_any {w : World} {g : Nat} {p n : Int} {r : Nat} (h : Cl w g p n r) (hn0 : 0 ≤ n) (hn1 : n ≤ 2147483647 * 1000001) (hr0 : 1 ≤ r) (hr1 : r ≤ 1000000) (hp0 : 1 ≤ p) (hp1 : p ≤ 2147483647) :
    Calls Try.prog 26 #[.pointer (some ⟨g, 0, none⟩)] w fun e w' => e = .returned (.bool (!decide (n + 1 < p * lub r))) ∧ Mod (· = g) w w' ∧
      Cl w' g p (if n + 1 < p * lub r then n + 1 else 0) (if n + 1 < p * lub r then r else ((r + 1 : Nat) : Int)) := by
  have H := Lib.hid h
  have c1 : w.cell? ⟨g, 1, none⟩ = some (.int .i64 n) := Blk.cell h 1
  have f1 : w.frozen? ⟨g, 1, none⟩ = false := Blk.frozen h 1
  clear h
  have hl := lub_le (i := r) (by omega) (by omega)
  have hm : 0 ≤ p * (lub r : Int) ∧ p * (lub r : Int) ≤ 2147483647 * 1000001 :=
    ⟨Int.mul_nonneg (by omega) (by omega), Int.le_trans (Int.mul_le_mul_of_nonneg_right hp1 (by omega)) (Int.mul_le_mul_of_nonneg_left (by omega) (by omega))⟩
  have e2 : IntKind.i64.wrap (p * (lub r : Int)) = p * (lub r : Int) := IntWalk.i64_in _ (by omega)
  have HE2 := Lib.hid e2
  clear e2 hl
  go_enter Try.func26, Try.ntmps26
  have hc2 : (w.setCell ⟨g, 1, none⟩ (.int .i64 (n + 1))).cell? ⟨g, 2, none⟩ = some (.int .i64 r) := Blk.cell (Blk.set_ H.out 1 _) 2
  go_wp2_with fail
  refine (rluby_any r _ hr0 (by omega)).mono ?_
  rintro e w1 ⟨rfl, k, hk⟩
  have hb1 := Lib.hid (show Cl w1 g p (n + 1) r from hk ▸ Blk.set_ H.out 1 _)
  have hm1 := Lib.hid (show Mod (· = g) w w1 from hk ▸ ((Mod.refl (· = g) w).setCell (p := ⟨g, 1, none⟩) (.inl rfl) _).drewN _)
  clear hk hc2 c1 f1
  have d0 : w1.cell? ⟨g, 0, none⟩ = some (.int .i64 p) := Blk.cell hb1.out 0
  have d1 : w1.cell? ⟨g, 1, none⟩ = some (.int .i64 (n + 1)) := Blk.cell hb1.out 1
  have d2 : w1.cell? ⟨g, 2, none⟩ = some (.int .i64 r) := Blk.cell hb1.out 2
  have g1 : w1.frozen? ⟨g, 1, none⟩ = false := Blk.frozen hb1.out 1
  have g2 : w1.frozen? ⟨g, 2, none⟩ = false := Blk.frozen hb1.out 2
  by_cases hlt : n + 1 < p * lub r
  · have ht : decide (n + 1 < p * lub r) = true := decide_eq_true hlt
    go_wp2_with fail
    have e2 := HE2.out
    go_quiet (fail)
    clear e2
    go_wp2
    go_ret
    exact ⟨rfl, hm1.out.drewN _, hb1.out⟩
  · have ht : decide (n + 1 < p * lub r) = false := decide_eq_false hlt
    have d2' : (w1.setCell ⟨g, 1, none⟩ (.int .i64 0)).cell? ⟨g, 2, none⟩ = some (.int .i64 r) := Blk.cell (Blk.set_ hb1.out 1 _) 2
    go_wp2_with fail
    have e2 := HE2.out
    go_quiet (fail)
    clear e2
    go_wp2
    go_ret
    refine ⟨rfl, ?_, ?_⟩
    · exact ((hm1.out.setCell (p := ⟨g, 1, none⟩) (.inl rfl) _).setCell (p := ⟨g, 2, none⟩) (.inl rfl) _).drewN _
    · exact Blk.set_ (Blk.set_ hb1.out 1 _) 2 _
/-- What holds of both bells between two calls. -/
def Bells (w : World) (p : Int) (g g' k : Nat) (wr : World) : Prop :=
  ∃ (n : Int) (r : Nat), 0 ≤ n ∧ n < p * lub r ∧ 1 ≤ r ∧ r ≤ k + 1 ∧ Bl wr g p (p * lub r - n) r ∧ Cl wr g' p n r ∧ Below w.heap.size w wr
theorem bells_bad (p n : Int) (w : World) (hn0 : 0 ≤ n) (hn1 : n ≤ 65535) (h : p < 1 ∨ 2147483647 < p) :
    Calls Try.prog 8 #[.int .i64 p, .int .u16 n] w fun e w' => e = .returned (.bool true) ∧ Below w.heap.size w w' := by
  have HS := Lib.hid h
  clear h
  go_enter Try.func8, Try.ntmps8
  go_wp2_with fail
  refine (newbell_bad p _ HS.out).mono ?_
  rintro e w1 ⟨rfl, rfl⟩
  go_wp2_with fail
  refine (rnewbell_bad p _ HS.out).mono ?_
  rintro e w1 ⟨rfl, rfl⟩
  go_wp2_with fail
  refine wp_loop_rounds 1 ?_
  rw [rounds_succ]
  by_cases hz : 0 < n % 5000
  all_goals
    go_wp2_with fail
    refine (works_ok _).mono ?_
    rintro e w3 ⟨rfl, hb3⟩
    go_wp2
    go_ret
    exact ⟨rfl, hb3⟩
set_option maxRecDepth 100000 in
theorem bells_ok (p n : Int) (w : World) (hn0 : 0 ≤ n) (hn1 : n ≤ 65535) (hp0 : 1 ≤ p) (hp1 : p ≤ 2147483647) :
    Calls Try.prog 8 #[.int .i64 p, .int .u16 n] w fun e w' => e = .returned (.bool true) ∧ Below w.heap.size w w' := by
  go_enter Try.func8, Try.ntmps8
  go_wp2_with fail
  refine (newbell_ok p _ hp0 hp1).mono ?_
  rintro e w1 ⟨rfl, hw1⟩
  have A1 := Lib.hid (hw1 ▸ bell_new w p : Bl w1 w.heap.size p p 1)
  have B1 := Lib.hid (hw1 ▸ (Below.refl w.heap.size w).alloc (Nat.le_refl _) _ : Below w.heap.size w w1)
  clear hw1
  go_wp2_with fail
  refine (rnewbell_ok p _ hp0 hp1).mono ?_
  rintro e w2 ⟨rfl, hw2⟩
  have R2 := Lib.hid (hw2 ▸ rbell_new w1 p : Cl w2 w1.heap.size p 0 1)
  have A2 := Lib.hid (hw2 ▸ Blk.alloc A1.out _ : Bl w2 w.heap.size p p 1)
  have B2 := Lib.hid (hw2 ▸ B1.out.alloc B1.out.size _ : Below w.heap.size w w2)
  have hg1 : w.heap.size < w1.heap.size := Blk.lt A1.out
  generalize w1.heap.size = g' at *
  clear hw2 A1 B1
  have hone : lub 1 = 1 := by decide +kernel
  have H1 := Lib.hid hone
  clear hone
  go_wp2_with fail
  go_loopw [9, 10, 11] (fun v x y wr => ∃ k : Nat, (k : Int) ≤ n % 5000 ∧ v = .int .i64 k ∧ Bells w p w.heap.size g' k wr) (fun v _ _ _ => (n % 5000).toNat - (intOf v).toNat)
  case atStart => exact ⟨0, by omega, rfl, 0, 1, by omega, by rw [H1.out]; omega, by omega, by omega, by rw [H1.out]; simpa using A2.out, R2.out, B2.out⟩
  case round =>
    obtain ⟨k, hk, rfl, m, r, hm0, hm1, hr0, hr1, hA, hR, hB⟩ := hrel
    have HA := Lib.hid hA
    have HR := Lib.hid hR
    have HB := Lib.hid hB
    clear hA hR hB
    have hl := lub_le (i := r) (by omega) (by omega)
    have hl2 := lub_le (i := r + 1) (by omega) (by omega)
    have hpl : p * (lub r : Int) ≤ 2147483647 * 1000000 := Int.le_trans (Int.mul_le_mul_of_nonneg_right hp1 (by omega)) (Int.mul_le_mul_of_nonneg_left (by omega) (by omega))
    have hpl2 : 0 < p * (lub (r + 1) : Int) := Int.mul_pos (by omega) (by omega)
    by_cases hlt : (k : Int) < n % 5000
    · go_wp2_with fail
      by_cases hno : m + 1 < p * lub r
      · refine (tick_no HA.out (by omega) (by omega)).mono ?_
        rintro e wa ⟨rfl, hma, hA1⟩
        have HA1 := Lib.hid hA1
        have HR1 := Lib.hid (show Cl wa g' p m r from Blk.mod HR.out hma (by omega))
        have HB1 := Lib.hid (Below.then_mod HB.out hma (fun i hi h => by omega) (Nat.le_refl _))
        clear hma hA1
        go_wp2_with fail
        refine (rtick_any HR1.out hm0 (by omega) hr0 (by omega) hp0 hp1).mono ?_
        rintro e wb ⟨rfl, hmb, hR2⟩
        rw [if_pos hno, if_pos hno] at hR2
        rw [decide_eq_true hno]
        have HR2 := Lib.hid hR2
        have HA2 := Lib.hid (show Bl wb w.heap.size p (p * lub r - m - 1) r from Blk.mod HA1.out hmb (by omega))
        have HB2 := Lib.hid (Below.then_mod HB1.out hmb (fun i hi h => by omega) (Nat.le_refl _))
        have HX : Hid (Bells w p w.heap.size g' (k + 1) wb) := Lib.hid ⟨m + 1, r, by omega, hno, hr0, by omega, by rw [show p * (lub r : Int) - (m + 1) = p * lub r - m - 1 by omega]; exact HA2.out, HR2.out, HB2.out⟩
        have cn : wb.cell? ⟨g', 2, none⟩ = some (.int .i64 r) := Blk.cell HR2.out 2
        clear hmb hR2
        go_wp2_with fail
        go_quiet ((go_at_call 27; exact qs (round_any (Blk.drewN HA2.out _)) ⟨_, rfl⟩))
        go_wp2
        go_roundw
        case rel =>
          obtain ⟨m', r', h1, h2, h3, h4, h5, h6, h7⟩ := HX.out
          exact ⟨k + 1, by omega, by go_num, m', r', h1, h2, h3, h4, h5, h6, belowN h7 _⟩
        case measure => simp [intOf]; omega
      · refine (tick_yes HA.out (by omega) (by omega) hr0 (by omega) hp0 hp1).mono ?_
        rintro e wa ⟨rfl, hma, hA1⟩
        have HA1 := Lib.hid hA1
        have HR1 := Lib.hid (show Cl wa g' p m r from Blk.mod HR.out hma (by omega))
        have HB1 := Lib.hid (Below.then_mod HB.out hma (fun i hi h => by omega) (Nat.le_refl _))
        clear hma hA1
        go_wp2_with fail
        refine (rtick_any HR1.out hm0 (by omega) hr0 (by omega) hp0 hp1).mono ?_
        rintro e wb ⟨rfl, hmb, hR2⟩
        rw [if_neg (Int.not_lt.2 hno), if_neg (Int.not_lt.2 hno)] at hR2
        rw [decide_eq_false (Int.not_lt.2 hno)]
        have HR2 := Lib.hid hR2
        have HA2 := Lib.hid (show Bl wb w.heap.size p (p * lub (r + 1)) ((r + 1 : Nat) : Int) from Blk.mod HA1.out hmb (by omega))
        have HB2 := Lib.hid (Below.then_mod HB1.out hmb (fun i hi h => by omega) (Nat.le_refl _))
        have HX : Hid (Bells w p w.heap.size g' (k + 1) wb) := Lib.hid ⟨0, r + 1, by omega, hpl2, by omega, by omega, by rw [show p * (lub (r + 1) : Int) - 0 = p * lub (r + 1) by omega]; exact HA2.out, HR2.out, HB2.out⟩
        have cn : wb.cell? ⟨g', 2, none⟩ = some (.int .i64 ((r + 1 : Nat) : Int)) := Blk.cell HR2.out 2
        clear hmb hR2
        go_wp2_with fail
        go_quiet ((go_at_call 27; exact qs (round_any (Blk.drewN HA2.out _)) ⟨_, rfl⟩))
        go_wp2
        go_roundw
        case rel =>
          obtain ⟨m', r', h1, h2, h3, h4, h5, h6, h7⟩ := HX.out
          exact ⟨k + 1, by omega, by go_num, m', r', h1, h2, h3, h4, h5, h6, belowN h7 _⟩
        case measure => simp [intOf]; omega
    · go_wp2_with fail
      refine (works_ok _).mono ?_
      rintro e w3 ⟨rfl, hb3⟩
      have HB3 := Lib.hid hb3
      clear hb3
      go_wp2
      go_ret
      exact ⟨rfl, HB.out.trans ⟨HB3.out.os, HB3.out.tape, HB3.out.output, HB3.out.size, fun i hi => HB3.out.block i (Nat.lt_of_lt_of_le hi HB.out.size)⟩⟩
end Go.Proofs.Ytejikplmmmjjpaa.Avg
