/- The walks of Above, the program's and the reference's, for averages whose values are from 0 to 2^62; and the law AverageAbove. -/
import Derived.Test.YtejikplmmmjjpaaAvgF
namespace Go.Proofs.Ytejikplmmmjjpaa.Avg
open Go.RowKit Go.Proofs.Ytejikplmmmjjpaa.Mem Go.Proofs.Ytejikplmmmjjpaa.AvgM
set_option linter.unusedVariables false

theorem ret_b {a b : Bool} (h : a = b) : Ending.returned (.bool a) = .returned (.bool b) := by rw [h]
def abv (f s m : Int) : Bool := decide (0 ≤ m ∧ m ≤ 10000 ∧ m * s < 100 * f)
theorem abv_out {f s m : Int} (h : m < 0 ∨ 10000 < m) : abv f s m = false := decide_eq_false (by omega)
theorem mul_bd {q m A : Int} (h0 : 0 ≤ q) (h1 : q ≤ A) (h2 : 0 ≤ m) (h3 : m ≤ 10000) : 0 ≤ q * m ∧ q * m ≤ A * 10000 :=
  ⟨Int.mul_nonneg h0 h2, Int.le_trans (Int.mul_le_mul_of_nonneg_right h1 h2) (Int.mul_le_mul_of_nonneg_left h3 (by omega))⟩
theorem cmp_base {B : Nat} (hB : 0 < B) (X Y : Nat) : (Y / B < X / B ∨ (X / B = Y / B ∧ Y % B < X % B)) ↔ Y < X := by
  have hx := Nat.div_add_mod X B
  have hy := Nat.div_add_mod Y B
  have hxm := Nat.mod_lt X hB
  have hym := Nat.mod_lt Y hB
  constructor
  · rintro (h | ⟨h, h'⟩)
    · have : B * (Y / B + 1) ≤ B * (X / B) := Nat.mul_le_mul_left B h
      rw [Nat.mul_add] at this
      omega
    · rw [h] at hx; omega
  · intro h
    rcases Nat.lt_trichotomy (Y / B) (X / B) with h1 | h1 | h1
    · exact .inl h1
    · refine .inr ⟨h1.symm, ?_⟩
      rw [h1] at hy; omega
    · have : B * (X / B + 1) ≤ B * (Y / B) := Nat.mul_le_mul_left B h1
      rw [Nat.mul_add] at this
      omega
theorem above_nil1 (q : Value) (m : Int) (w : World) :
    Calls Try.prog 21 #[.pointer none, q, .int .i64 m] w fun e w' => e = .returned (.bool false) ∧ w = w' := by
  go_enter Try.func21, Try.ntmps21
  go_wp2
  go_ret
  exact ⟨rfl, rfl⟩
theorem above_nil2 (g : Nat) (m : Int) (w : World) :
    Calls Try.prog 21 #[.pointer (some ⟨g, 0, none⟩), .pointer none, .int .i64 m] w fun e w' => e = .returned (.bool false) ∧ w = w' := by
  go_enter Try.func21, Try.ntmps21
  go_wp2
  go_ret
  exact ⟨rfl, rfl⟩
theorem above_ok {w : World} {g g' : Nat} {s f c s' f' c' : Int} (m : Int) (h : Av w g s f c) (h' : Av w g' s' f' c') (hf0 : 0 ≤ f) (hf1 : f ≤ 4611686018427387904) (hg0 : 0 ≤ f') (hg1 : f' ≤ 4611686018427387904) :
    Calls Try.prog 21 #[.pointer (some ⟨g, 0, none⟩), .pointer (some ⟨g', 0, none⟩), .int .i64 m] w fun e w' => e = .returned (.bool (abv f f' m)) ∧ w = w' := by
  have c1 : w.cell? ⟨g, 1, none⟩ = some (.int .i64 f) := Blk.cell h 1
  have c2 : w.cell? ⟨g', 1, none⟩ = some (.int .i64 f') := Blk.cell h' 1
  clear h h'
  by_cases hm : m < 0 ∨ 10000 < m
  · have he := Lib.hid (abv_out (f := f) (s := f') hm)
    rcases hm with hm | hm
    · go_enter Try.func21, Try.ntmps21
      go_wp2
      go_ret
      exact ⟨ret_b he.out.symm, rfl⟩
    · have hm' : ¬ m < 0 := by omega
      go_enter Try.func21, Try.ntmps21
      go_wp2
      go_ret
      exact ⟨ret_b he.out.symm, rfl⟩
  · have m0 : 0 ≤ m := by omega
    have m1 : m ≤ 10000 := by omega
    clear hm
    obtain ⟨F, rfl⟩ := Int.eq_ofNat_of_zero_le hf0
    obtain ⟨G, rfl⟩ := Int.eq_ofNat_of_zero_le hg0
    obtain ⟨M, rfl⟩ := Int.eq_ofNat_of_zero_le m0
    have hcmp := cmp_base (B := 18446744073709551616) (by omega) (F * 100) (G * M)
    have HE := Lib.hid (show abv (F : Int) G M = decide (G * M < F * 100) from decide_eq_decide.2 ⟨fun h => by
      have h := h.2.2
      rw [Int.mul_comm, Int.mul_comm 100] at h
      exact_mod_cast h, fun h => ⟨m0, m1, by
      rw [Int.mul_comm, Int.mul_comm 100]
      exact_mod_cast h⟩⟩)
    have HC := Lib.hid hcmp
    clear hcmp
    have e1 : IntKind.u64.wrap (F : Int) = F := IntWalk.u64_in _ (by omega)
    have e2 : IntKind.u64.wrap (G : Int) = G := IntWalk.u64_in _ (by omega)
    have e3 : IntKind.u64.wrap (M : Int) = M := IntWalk.u64_in _ (by omega)
    go_enter Try.func21, Try.ntmps21
    go_wp2_with fail
    refine (Try.bits_Mul64 F 100 (by omega) (by omega) _).mono ?_
    rintro e w' ⟨rfl, rfl⟩
    go_wp2_with fail
    refine (Try.bits_Mul64 G M (by omega) (by omega) _).mono ?_
    rintro e w' ⟨rfl, rfl⟩
    go_wp2_with fail
    all_goals
      go_ret
      refine ⟨ret_b ?_, rfl⟩
      rw [HE.out]
      first
        | exact (decide_eq_true (HC.out.1 (.inl (by omega)))).symm
        | exact (decide_eq_false (fun h => by rcases HC.out.2 h with h | h <;> omega)).symm
        | exact decide_eq_decide.2 ⟨fun h => HC.out.1 (.inr ⟨by omega, by omega⟩), fun h => by rcases HC.out.2 h with h | h <;> omega⟩
theorem rabove_ok (f s m : Int) (w : World) (hf0 : 0 ≤ f) (hf1 : f ≤ 4611686018427387904) (hg0 : 0 ≤ s) (hg1 : s ≤ 4611686018427387904) :
    Calls Try.prog 22 #[.int .i64 f, .int .i64 s, .int .i64 m] w fun e w' => e = .returned (.bool (abv f s m)) ∧ w = w' := by
  by_cases hm : m < 0 ∨ 10000 < m
  · have he := Lib.hid (abv_out (f := f) (s := s) hm)
    rcases hm with hm | hm
    · go_enter Try.func22, Try.ntmps22
      go_wp2
      go_ret
      exact ⟨ret_b he.out.symm, rfl⟩
    · have hm' : ¬ m < 0 := by omega
      go_enter Try.func22, Try.ntmps22
      go_wp2
      go_ret
      exact ⟨ret_b he.out.symm, rfl⟩
  · have m0 : 0 ≤ m := by omega
    have m1 : m ≤ 10000 := by omega
    clear hm
    have hq := mul_bd (q := s / 4294967296) (m := m) (A := 1073741824) (by omega) (by omega) m0 m1
    have hr := mul_bd (q := s % 4294967296) (m := m) (A := 4294967295) (by omega) (by omega) m0 m1
    have hc := cmp_base (B := 4294967296) (by omega) (f * 100).toNat (s * m).toNat
    have hsm : 0 ≤ s * m := Int.mul_nonneg hg0 m0
    have hsm2 : s * m = (s / 4294967296 * m) * 4294967296 + s % 4294967296 * m := by
      have h1 := Int.mul_ediv_add_emod s 4294967296
      calc s * m = (4294967296 * (s / 4294967296) + s % 4294967296) * m := by rw [h1]
        _ = (s / 4294967296 * m) * 4294967296 + s % 4294967296 * m := by rw [Int.add_mul, Int.mul_assoc, Int.mul_comm 4294967296]
    have HE := Lib.hid (show abv f s m = decide ((s * m).toNat < (f * 100).toNat) from decide_eq_decide.2 ⟨fun h => by
      have h := h.2.2
      rw [Int.mul_comm m] at h
      omega, fun h => ⟨m0, m1, by
      rw [Int.mul_comm m]
      omega⟩⟩)
    have HC := Lib.hid hc
    have HS := Lib.hid hsm2
    clear hc hsm2
    obtain ⟨hq0, hq1⟩ := hq
    obtain ⟨hr0, hr1⟩ := hr
    go_enter Try.func22, Try.ntmps22
    go_wp2_with fail
    all_goals
      go_ret
      refine ⟨ret_b ?_, rfl⟩
      rw [HE.out]
      have hco := HC.out
      have hso := HS.out
      clear HC HS HE
      try simp only [intOf]
      generalize s * m = Z at *
      generalize s / 4294967296 * m = P at *
      generalize s % 4294967296 * m = R at *
      first
        | exact (decide_eq_true (hco.1 (.inl (by omega)))).symm
        | exact (decide_eq_false (fun h => by rcases hco.2 h with h | h <;> omega)).symm
        | exact decide_eq_decide.2 ⟨fun h => hco.1 (.inr ⟨by omega, by omega⟩), fun h => by rcases hco.2 h with h | h <;> omega⟩

theorem abv_self {v m : Int} (hv : 0 ≤ v) : abv v v m = true ↔ (0 ≤ m ∧ m < 100 ∧ 0 < v) := by
  unfold abv
  rw [decide_eq_true_iff]
  constructor
  · rintro ⟨h0, h1, h2⟩
    have h3 : 0 < v := by
      rcases Int.lt_or_eq_of_le hv with h | h
      · exact h
      · rw [← h] at h2; omega
    refine ⟨h0, ?_, h3⟩
    have := Int.lt_of_mul_lt_mul_right h2 hv
    exact this
  · rintro ⟨h0, h1, h2⟩
    exact ⟨h0, by omega, Int.mul_lt_mul_of_pos_right h1 h2⟩
theorem aba_long1 (s t : Int) (a b : Option Addr) (la ca lb cb : Nat) (m : Int) (w : World) (h : 1000 < la) :
    Calls Try.prog 7 #[.int .i64 s, .int .i64 t, .slice a la ca, .slice b lb cb, .int .i64 m] w fun e w' => e = .returned (.bool true) ∧ Below w.heap.size w w' := by
  go_enter Try.func7, Try.ntmps7
  go_wp2_with fail
  refine (works_ok _).mono ?_
  rintro e w3 ⟨rfl, hb3⟩
  go_wp2
  go_ret
  exact ⟨rfl, hb3⟩
theorem aba_long2 (s t : Int) (a b : Option Addr) (la ca lb cb : Nat) (m : Int) (w : World) (h : la ≤ 1000) (h' : 1000 < lb) :
    Calls Try.prog 7 #[.int .i64 s, .int .i64 t, .slice a la ca, .slice b lb cb, .int .i64 m] w fun e w' => e = .returned (.bool true) ∧ Below w.heap.size w w' := by
  go_enter Try.func7, Try.ntmps7
  go_wp2_with fail
  refine (works_ok _).mono ?_
  rintro e w3 ⟨rfl, hb3⟩
  go_wp2
  go_ret
  exact ⟨rfl, hb3⟩
/-- filled, whatever the shift. -/
theorem filled_any (s : Int) (a : Option Addr) (len cap : Nat) (zs : List Int) (w : World) (hlen : len ≤ 1000) (hrd : Rd w a len zs) :
    Calls Try.prog 17 #[.int .i64 s, .slice a len cap] w fun e w' =>
      (e = .returned (.pointer (some ⟨w.heap.size, 0, none⟩)) ∧ Fl w s w.heap.size 1000 w') ∨ (e = .returned (.pointer none) ∧ w = w') := by
  by_cases h : 0 ≤ s ∧ s ≤ 30
  · exact (filled_ok s a len cap zs w h.1 h.2 hlen hrd).mono fun _ _ h => .inl h
  · exact (filled_bad s a len cap w hlen (by omega)).mono fun _ _ h => .inr h
set_option maxRecDepth 100000 in
set_option maxHeartbeats 1000000 in
theorem aba_ok (s t : Int) (a b : Option Addr) (la ca lb cb : Nat) (za zb : List Int) (m : Int) (w : World) (h : la ≤ 1000) (h' : lb ≤ 1000) (hra : Rd w a la za) (hrb : Rd w b lb zb) :
    Calls Try.prog 7 #[.int .i64 s, .int .i64 t, .slice a la ca, .slice b lb cb, .int .i64 m] w fun e w' => e = .returned (.bool true) ∧ Below w.heap.size w w' := by
  have HRA := Lib.hid hra
  have HRB := Lib.hid hrb
  clear hra hrb
  go_enter Try.func7, Try.ntmps7
  go_wp2_with fail
  refine (filled_any s _ _ _ za _ h HRA.out).mono ?_
  rintro e w1 (⟨rfl, v, c, hv0, hv1, hc0, hc1, hA, hB⟩ | ⟨rfl, rfl⟩)
  · have HA := Lib.hid hA
    have HB := Lib.hid hB
    clear hA hB
    go_wp2_with fail
    refine (filled_any t _ _ _ zb _ h' (HRB.out.below HB.out)).mono ?_
    rintro e w2 (⟨rfl, v2, c2, hv20, hv21, hc20, hc21, hA2, hB2⟩ | ⟨rfl, rfl⟩)
    · have HA2 := Lib.hid hA2
      have HB2 := Lib.hid (below_then HB.out hB2 HB.out.size)
      have HA1 := Lib.hid (show Av w2 w.heap.size s v c from Blk.below HA.out hB2)
      clear hA2 hB2 HA HB
      go_wp2_with fail
      refine (above_ok m HA1.out HA2.out hv0 hv1 hv20 hv21).mono ?_
      rintro e w' ⟨rfl, rfl⟩
      go_wp2_with fail
      refine (value_any HA1.out).mono ?_
      rintro e w' ⟨rfl, rfl⟩
      go_wp2_with fail
      refine (value_any HA2.out).mono ?_
      rintro e w' ⟨rfl, rfl⟩
      go_wp2_with fail
      refine (rabove_ok v v2 m _ hv0 hv1 hv20 hv21).mono ?_
      rintro e w' ⟨rfl, rfl⟩
      go_wp2_with fail
      have hself := abv_self (v := v) (m := m) hv0
      refine (above_ok m HA1.out HA1.out hv0 hv1 hv0 hv1).mono ?_
      rintro e w' ⟨rfl, rfl⟩
      by_cases hm0 : 0 ≤ m
      · by_cases hm1 : m < 100
        · by_cases hp : 0 < v
          · have he : abv v v m = true := hself.2 ⟨hm0, hm1, hp⟩
            rw [he]
            clear he hself
            go_wp2_with fail
            refine (value_any HA1.out).mono ?_
            rintro e w' ⟨rfl, rfl⟩
            go_wp2_with fail
            refine (works_ok _).mono ?_
            rintro e w3 ⟨rfl, hb3⟩
            have HB3 := Lib.hid hb3
            clear hb3
            go_wp2
            go_ret
            exact ⟨rfl, below_then HB2.out HB3.out HB2.out.size⟩
          · have he : abv v v m = false := by
              rw [← Bool.not_eq_true, hself]; omega
            rw [he]
            clear he hself
            go_wp2_with fail
            refine (value_any HA1.out).mono ?_
            rintro e w' ⟨rfl, rfl⟩
            go_wp2_with fail
            refine (works_ok _).mono ?_
            rintro e w3 ⟨rfl, hb3⟩
            have HB3 := Lib.hid hb3
            clear hb3
            go_wp2
            go_ret
            exact ⟨ret_b (by simpa using hp), below_then HB2.out HB3.out HB2.out.size⟩
        · have he : abv v v m = false := by
            rw [← Bool.not_eq_true, hself]; omega
          rw [he]
          clear he hself
          go_wp2_with fail
          refine (works_ok _).mono ?_
          rintro e w3 ⟨rfl, hb3⟩
          have HB3 := Lib.hid hb3
          clear hb3
          go_wp2
          go_ret
          exact ⟨rfl, below_then HB2.out HB3.out HB2.out.size⟩
      · have he : abv v v m = false := by
          rw [← Bool.not_eq_true, hself]; omega
        rw [he]
        clear he hself
        go_wp2_with fail
        refine (works_ok _).mono ?_
        rintro e w3 ⟨rfl, hb3⟩
        have HB3 := Lib.hid hb3
        clear hb3
        go_wp2
        go_ret
        exact ⟨rfl, below_then HB2.out HB3.out HB2.out.size⟩
    · go_wp2_with fail
      refine (above_nil2 _ m _).mono ?_
      rintro e w' ⟨rfl, rfl⟩
      go_wp2_with fail
      refine (works_ok _).mono ?_
      rintro e w3 ⟨rfl, hb3⟩
      have HB3 := Lib.hid hb3
      clear hb3
      go_wp2
      go_ret
      exact ⟨rfl, below_then HB.out HB3.out HB.out.size⟩
  · go_wp2_with fail
    refine (filled_any t _ _ _ zb _ h' HRB.out).mono ?_
    rintro e w2 (⟨rfl, v2, c2, hv20, hv21, hc20, hc21, hA2, hB2⟩ | ⟨rfl, rfl⟩)
    · have HB2 := Lib.hid hB2
      clear hA2 hB2
      go_wp2_with fail
      refine (above_nil1 _ m _).mono ?_
      rintro e w' ⟨rfl, rfl⟩
      go_wp2_with fail
      refine (works_ok _).mono ?_
      rintro e w3 ⟨rfl, hb3⟩
      have HB3 := Lib.hid hb3
      clear hb3
      go_wp2
      go_ret
      exact ⟨rfl, below_then HB2.out HB3.out HB2.out.size⟩
    · go_wp2_with fail
      refine (above_nil1 _ m _).mono ?_
      rintro e w' ⟨rfl, rfl⟩
      go_wp2_with fail
      refine (works_ok _).mono ?_
      rintro e w3 ⟨rfl, hb3⟩
      go_wp2
      go_ret
      exact ⟨rfl, hb3⟩
end Go.Proofs.Ytejikplmmmjjpaa.Avg
