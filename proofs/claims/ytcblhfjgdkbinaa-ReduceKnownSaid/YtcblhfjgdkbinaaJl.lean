/- SameIDs; Limit of both; the example. Conditions: the memory. -/
import Derived.Test.YtcblhfjgdkbinaaJk
namespace Go.Proofs.Ytcblhfjgdkbinaa.Re
open Go.RowKit Go.Proofs.Ytcblhfjgdkbinaa.Mem Go.Proofs.Ytcblhfjgdkbinaa.Sl Go.Shelf Go.Sort Go.Proofs.Ytcblhfjgdkbinaa.Sr
open Go.Proofs.Ytcblhfjgdkbinaa.FnL (enc_at below_then)
set_option linter.unusedVariables false

set_option maxHeartbeats 1000000 in
theorem ids_same {w : World} (a : Option Addr) (n c : Nat) (m : List Int) (hl : n = m.length) (hr : RdV w a (LQ m)) (b : Option Addr) (n' c' : Nat) (m' : List Int) (hl' : n' = m'.length) (hr' : RdV w b (LQ m')) (hmx : n ≤ 4000000) (hmx' : n' ≤ 4000000) :
    Calls Try.prog 20 #[.slice a n c, .slice b n' c'] w fun e w' => e = .returned (.bool (m == m')) ∧ Below w.heap.size w w' := by
  have HM := Lib.hid hr
  have HM' := Lib.hid hr'
  have HL := Lib.hid hl
  have HL' := Lib.hid hl'
  clear hr hr' hl hl'
  by_cases hn : n = n'
  · subst hn
    go_enter Try.func20, Try.ntmps20
    go_wp2_with fail
    go_loopw [5] (fun i wr => ∃ k : Nat, k ≤ n ∧ i = .int .i64 k ∧ m.take k = m'.take k ∧ Below w.heap.size w wr) (fun i _ => n - (intOf i).toNat)
    case atStart => exact ⟨0, Nat.zero_le _, rfl, rfl, Below.refl _ _⟩
    case round =>
      obtain ⟨k, hk, rfl, hf, hb⟩ := hrel
      have HF := Lib.hid hf
      have HB := Lib.hid hb
      clear hf hb
      by_cases hlt : k < n
      · have hkl : k < m.length := by rw [← HL.out]; exact hlt
        have hkl' : k < m'.length := by rw [← HL'.out]; exact hlt
        obtain ⟨b1, o1, ha1, _, hc1⟩ := RdV.at_ (HM.out.below HB.out) (enc_at (enc := Value.int .i64) hkl)
        obtain ⟨b2, o2, ha2, _, hc2⟩ := RdV.at_ (HM'.out.below HB.out) (enc_at (enc := Value.int .i64) hkl')
        subst ha1 ha2
        have HT := Lib.hid (show m[k]'hkl = m'[k]'hkl' → m.take (k + 1) = m'.take (k + 1) from fun h => by rw [List.take_succ_eq_append_getElem hkl, List.take_succ_eq_append_getElem hkl', HF.out, h])
        have HNE := Lib.hid (show m[k]'hkl ≠ m'[k]'hkl' → (m == m') = false from fun h => by
          rw [beq_eq_false_iff_ne]
          rintro rfl
          exact h rfl)
        generalize m[k]'hkl = x at *
        generalize m'[k]'hkl' = y at *
        clear hkl hkl'
        by_cases hxy : x = y
        · have HE := Lib.hid (HT.out hxy)
          subst hxy
          go_wp2_with fail
          go_quiet (fail)
          go_wp2
          go_roundw
          case rel => exact ⟨k + 1, by omega, by go_num, HE.out, belowN HB.out _⟩
          case measure => simp [intOf]; omega
        · have HE := Lib.hid (HNE.out hxy)
          have hxy' : (x == y) = false := by simpa using hxy
          go_wp2_with fail
          go_quiet (fail)
          go_wp2
          go_ret
          exact ⟨by rw [HE.out]; rfl, belowN HB.out _⟩
      · have HE := Lib.hid (show (m == m') = true by
          have := HF.out
          rw [List.take_of_length_le (by rw [← HL.out]; omega), List.take_of_length_le (by rw [← HL'.out]; omega)] at this
          rw [this]; simp)
        go_wp2
        go_ret
        exact ⟨by rw [HE.out]; rfl, HB.out⟩
  · have HE := Lib.hid (show (m == m') = false by
      rw [beq_eq_false_iff_ne]
      rintro rfl
      exact hn (HL.out.trans HL'.out.symm))
    have hn' : (n : Int) ≠ n' := by omega
    go_enter Try.func20, Try.ntmps20
    go_wp2
    go_ret
    exact ⟨by rw [HE.out]; rfl, Below.refl _ _⟩
def tri : Nat → Int
  | 0 => 0
  | k + 1 => tri k + ((k : Int) + 1)
theorem tri2 : ∀ k : Nat, 2 * tri k = (k : Int) * ((k : Int) + 1)
  | 0 => by simp [tri]
  | k + 1 => by
    have := tri2 k
    rw [tri, Int.mul_add, this]
    push_cast
    rw [Int.add_mul ((k : Int)) 1 ((k : Int) + 1 + 1), Int.mul_add (k : Int) ((k : Int) + 1) 1, Int.mul_add (k : Int) (k : Int) 1]
    omega
theorem tri_b : ∀ k : Nat, 0 ≤ tri k
  | 0 => by simp [tri]
  | k + 1 => by have := tri_b k; rw [tri]; omega
theorem tri_le : ∀ (k b : Nat), k ≤ b → tri k ≤ (b : Int) * k
  | 0, b, _ => by simp [tri]
  | k + 1, b, h => by
    have := tri_le k b (by omega)
    rw [tri]; push_cast; rw [Int.mul_add]; omega
theorem tri_div (k : Nat) : (k : Int) * ((k : Int) + 1) / 2 = tri k := by have := tri2 k; omega
def okLim (f n : Int) : Prop := 1 ≤ f ∧ f ≤ 1000000 ∧ 1 ≤ n ∧ n ≤ 1000000
theorem limit_bad (f n : Int) (h : ¬ okLim f n) (w : World) : Calls Try.prog 11 #[.int .i64 f, .int .i64 n] w fun e w' => e = .returned (.tuple #[.int .i64 0, .int .i64 2]) ∧ w = w' := by
  rcases (show f < 1 ∨ (¬ f < 1 ∧ 1000000 < f) ∨ (¬ f < 1 ∧ ¬ 1000000 < f ∧ n < 1) ∨ (¬ f < 1 ∧ ¬ 1000000 < f ∧ ¬ n < 1 ∧ 1000000 < n) by unfold okLim at h; omega) with h1 | ⟨h1, h2⟩ | ⟨h1, h2, h3⟩ | ⟨h1, h2, h3, h4⟩
  all_goals
    clear h
    go_enter Try.func11, Try.ntmps11
    go_wp2
    go_ret2
    exact ⟨rfl, rfl⟩
theorem lim_b {f : Int} {k : Nat} (h1 : 1 ≤ f) (h2 : f ≤ 1000000) (h3 : k ≤ 1000000) : 0 ≤ f * tri k ∧ f * tri k ≤ 1000000000000000000 := by
  have a := tri_b k
  have b := tri2 k
  refine ⟨Int.mul_nonneg (by omega) a, ?_⟩
  have c : (k : Int) * ((k : Int) + 1) ≤ 1000000 * 1000001 := Int.mul_le_mul (by omega) (by omega) (by omega) (by omega)
  have d : tri k ≤ 500000500000 := by omega
  have : f * tri k ≤ 1000000 * 500000500000 := Int.mul_le_mul h2 d a (by omega)
  omega
theorem limit_ok (f : Int) (k : Nat) (h : okLim f k) (w : World) : Calls Try.prog 11 #[.int .i64 f, .int .i64 k] w fun e w' => e = .returned (.tuple #[.int .i64 (f * tri k), .int .i64 0]) ∧ w = w' := by
  obtain ⟨h1, h2, h3, h4⟩ := h
  have hb := lim_b (f := f) (k := k) h1 h2 (by omega)
  have ht := tri_div k
  have hm : 0 ≤ (k : Int) * ((k : Int) + 1) ∧ (k : Int) * ((k : Int) + 1) ≤ 1000000 * 1000001 := ⟨Int.mul_nonneg (by omega) (by omega), Int.mul_le_mul (by omega) (by omega) (by omega) (by omega)⟩
  have wt : Int.tdiv ((k : Int) * ((k : Int) + 1)) 2 = tri k := by rw [Int.tdiv_eq_ediv_of_nonneg hm.1]; exact ht
  have w1 : IntKind.i64.wrap ((k : Int) * ((k : Int) + 1)) = (k : Int) * ((k : Int) + 1) := by rw [IntKind.wrap_i64]; omega
  have t1 : 0 ≤ tri k ∧ tri k ≤ 1000000 * 1000001 := by omega
  have w2 : IntKind.i64.wrap (tri k) = tri k := by rw [IntKind.wrap_i64]; omega
  have w3 : IntKind.i64.wrap (f * tri k) = f * tri k := by rw [IntKind.wrap_i64]; omega
  have c1 : ¬ f < 1 := by omega
  have c2 : ¬ 1000000 < f := by omega
  have c3 : ¬ (k : Int) < 1 := by omega
  have c4 : ¬ 1000000 < (k : Int) := by omega
  generalize tri k = T at *
  go_enter Try.func11, Try.ntmps11
  go_wp2
  go_ret2
  exact ⟨by simp [*], rfl⟩
theorem rlimit_bad (f n : Int) (h : ¬ okLim f n) (w : World) : Calls Try.prog 12 #[.int .i64 f, .int .i64 n] w fun e w' => e = .returned (.tuple #[.int .i64 0, .int .i64 2]) ∧ w = w' := by
  rcases (show f < 1 ∨ (¬ f < 1 ∧ 1000000 < f) ∨ (¬ f < 1 ∧ ¬ 1000000 < f ∧ n < 1) ∨ (¬ f < 1 ∧ ¬ 1000000 < f ∧ ¬ n < 1 ∧ 1000000 < n) by unfold okLim at h; omega) with h1 | ⟨h1, h2⟩ | ⟨h1, h2, h3⟩ | ⟨h1, h2, h3, h4⟩
  all_goals
    clear h
    go_enter Try.func12, Try.ntmps12
    go_wp2
    go_ret2
    exact ⟨rfl, rfl⟩
theorem rlimit_ok (f : Int) (n : Nat) (h : okLim f n) (hn : n ≤ 3000) (w : World) : Calls Try.prog 12 #[.int .i64 f, .int .i64 n] w fun e w' => e = .returned (.tuple #[.int .i64 (f * tri n), .int .i64 0]) ∧ w = w' := by
  obtain ⟨h1, h2, h3, h4⟩ := h
  have c1 : ¬ f < 1 := by omega
  have c2 : ¬ 1000000 < f := by omega
  have c3 : ¬ (n : Int) < 1 := by omega
  have c4 : ¬ 1000000 < (n : Int) := by omega
  have c5 : (n : Int) ≤ 3000 := by omega
  go_enter Try.func12, Try.ntmps12
  go_wp2
  go_loopw [6, 7] (fun vs vi wr => ∃ (k : Nat) (t : Int), vs = .int .i64 t ∧ vi = .int .i64 ((k : Int) + 1) ∧ k ≤ n ∧ Hid (t = f * tri k) ∧ wr = w) (fun vs vi _ => n + 1 - (intOf vi).toNat)
  case atStart => exact ⟨0, 0, rfl, rfl, Nat.zero_le _, show (0 : Int) = f * 0 from (Int.mul_zero f).symm, rfl⟩
  case round =>
    obtain ⟨k, t, rfl, rfl, hk, HT, rfl⟩ := hrel
    by_cases hlt : k < n
    · have hz : (k : Int) + 1 ≤ (n : Int) := by omega
      have hb := lim_b (f := f) (k := k) h1 h2 (by omega)
      have hb2 := lim_b (f := f) (k := k + 1) h1 h2 (by omega)
      have e2 : f * tri (k + 1) = t + ((k : Int) + 1) * f := by rw [tri, Int.mul_add, HT.out, Int.mul_comm f ((k : Int) + 1)]
      have hm : 0 ≤ ((k : Int) + 1) * f ∧ ((k : Int) + 1) * f ≤ 1000000 * 1000000 := ⟨Int.mul_nonneg (by omega) (by omega), Int.mul_le_mul (by omega) h2 (by omega) (by omega)⟩
      rw [← HT.out] at hb
      rw [e2] at hb2
      have HT2 := Lib.hid e2.symm
      obtain ⟨q, hq⟩ : ∃ q, ((k : Int) + 1) * f = q := ⟨_, rfl⟩
      rw [hq] at hm hb2
      have HQ := Lib.hid hq
      rw [hq] at HT2
      clear e2 hq
      go_wp2
      go_roundw
      case rel => exact ⟨k + 1, t + q, by rw [HQ.out]; congr 1; unfold wrap64; omega, by go_num, hlt, HT2.out, by first | rfl | trivial⟩
      case measure => simp [intOf]; omega
    · obtain rfl : k = n := by omega
      have HF := Lib.hid HT.out
      go_wp2
      go_ret2
      exact ⟨by rw [HF.out]; rfl, rfl⟩
def exR : List Rc := [⟨5, 3, 4, 0, false⟩, ⟨6, 9, 9, 0, false⟩, ⟨7, 9, 12, 1, false⟩, ⟨9, 1, 0, 0, false⟩]
theorem ex_ids : idsR (chosen exR 2 100) = [7, 6, 5] := by decide
set_option maxHeartbeats 2000000 in
theorem works_any (w : World) : Calls Try.prog 10 #[] w fun e w' => e = .returned (.bool true) ∧ Below w.heap.size w w' := by
  obtain ⟨W, hW⟩ : ∃ W, W = w.alloc (.cells #[.int .i64 5, .int .i64 3, .int .i64 4, .int .i64 0, .bool false, .int .i64 6, .int .i64 9, .int .i64 9, .int .i64 0, .bool false, .int .i64 7, .int .i64 9, .int .i64 12, .int .i64 1, .bool false, .int .i64 9, .int .i64 1, .int .i64 0, .int .i64 0, .bool false] 28) := ⟨_, rfl⟩
  have HWE := Lib.hid hW
  have HBW := Lib.hid (show Below w.heap.size w W by rw [hW]; exact (Below.refl _ _).alloc (Nat.le_refl _) _)
  have HX := Lib.hid (show Blk W w.heap.size 28 (RCs exR).toArray by rw [hW]; exact Blk.new _ _ _)
  have HC := Lib.hid (show ∀ W', W' = W → Calls Try.prog 8 #[.slice (some ⟨w.heap.size, 0, none⟩) 4 4, .int .i64 2, .int .i64 100] W' (ChoR W' [7, 6, 5] 0) from fun W' e => by
    subst e
    have := choose_ok (w := W') (some ⟨w.heap.size, 0, none⟩) 4 exR 2 100 (RdV.blk (rest := []) (by rw [List.append_nil]; exact HX.out)) (fun h => by cases h) (by decide) (by unfold okPart; omega)
    rw [ex_ids] at this
    exact this)
  have HL := Lib.hid (fun W => limit_ok 300 3 (by unfold okLim; omega) W)
  have HT := Lib.hid (fun W => tier_any ⟨5, 3, 4, 0, false⟩ 2 W)
  clear hW
  go_enter Try.func10, Try.ntmps10
  go_wp2_with fail
  refine (HC.out _ HWE.out.symm).mono ?_
  rintro e w1 ⟨A, c, rfl, hO, hB⟩
  have HB1 := Lib.hid (show Below w.heap.size w w1 from below_then HBW.out (by rw [HWE.out]; exact hB) HBW.out.size)
  have HO := Lib.hid hO.rd
  have HX1 := Lib.hid (show Blk w1 w.heap.size 28 (RCs exR).toArray from HX.out.below (by rw [HWE.out]; exact hB))
  clear hO hB HC HX
  go_wp2_with fail
  refine (HL.out _).mono ?_
  rintro e w2 ⟨rfl, rfl⟩
  have HS := Lib.hid (show Calls Try.prog 20 #[.slice A 3 c, .slice (some ⟨w1.heap.size, 0, none⟩) 3 3] (w1.alloc (.cells #[.int .i64 7, .int .i64 6, .int .i64 5] 2)) fun e w' => e = .returned (.bool true) ∧ Below w1.heap.size w1 w' from by
    have hb : Below w1.heap.size w1 (w1.alloc (.cells #[.int .i64 7, .int .i64 6, .int .i64 5] 2)) := (Below.refl _ _).alloc (Nat.le_refl _) _
    refine (ids_same A 3 c [7, 6, 5] rfl (HO.out.below hb) (some ⟨w1.heap.size, 0, none⟩) 3 3 [7, 6, 5] rfl (RdV.blk (rest := []) (by rw [List.append_nil]; exact Blk.new _ _ _)) (by decide) (by decide)).mono fun e w' h => ⟨h.1, below_then hb h.2 hb.size⟩)
  go_wp2_with fail
  refine HS.out.mono ?_
  rintro e w3 ⟨rfl, hB3⟩
  have HB3 := Lib.hid (below_then HB1.out hB3 HB1.out.size)
  have HX3 := Lib.hid (HX1.out.below hB3)
  have c0 : w3.cell? ⟨w.heap.size, 0, none⟩ = some (.int .i64 5) := HX3.out.cell 0
  have c1 : w3.cell? ⟨w.heap.size, 1, none⟩ = some (.int .i64 3) := HX3.out.cell 1
  have c2 : w3.cell? ⟨w.heap.size, 2, none⟩ = some (.int .i64 4) := HX3.out.cell 2
  have c3 : w3.cell? ⟨w.heap.size, 3, none⟩ = some (.int .i64 0) := HX3.out.cell 3
  have c4 : w3.cell? ⟨w.heap.size, 4, none⟩ = some (.bool false) := HX3.out.cell 4
  clear hB3 HS
  go_wp2_with fail
  refine (HT.out _).mono ?_
  rintro e w4 ⟨rfl, hB4⟩
  have HB4 := Lib.hid (below_then HB3.out hB4 HB3.out.size)
  clear hB4
  have e2 : tierF 3 2 = 2 := by decide
  rw [e2]
  go_wp2
  go_ret
  exact ⟨rfl, HB4.out⟩
end Go.Proofs.Ytcblhfjgdkbinaa.Re
