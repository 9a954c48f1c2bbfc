/- The walks of filled, and of the laws AverageMoves and AverageBetween: for every shift, every slice of numbers, every number more they answer true, and write nothing that was there. -/
import Derived.Test.YtejikplmmmjjpaaAvgK
import Derived.Deep.RegionHeld3
import Derived.Deep.DeepCutAuto
import Derived.WideShapes
namespace Go.Proofs.Ytejikplmmmjjpaa.Avg
open Go.RowKit Go.Proofs.Ytejikplmmmjjpaa.Mem Go.Proofs.Ytejikplmmmjjpaa.AvgM
set_option linter.unusedVariables false

/-- A slice of numbers that can be read. -/
def Rd (w : World) (a : Option Addr) (len : Nat) (zs : List Int) : Prop :=
  0 < len → ∃ b off, a = some ⟨b, off, none⟩ ∧ b < w.heap.size ∧ ∀ i, i < len → w.cell? ⟨b, off + i, none⟩ = some (.int .i64 (zs.getD i 0))
theorem Rd.below {w w' : World} {a : Option Addr} {len : Nat} {zs : List Int} (h : Rd w a len zs) (hb : Below w.heap.size w w') : Rd w' a len zs := fun hp => by
  obtain ⟨b, off, rfl, hx, hc⟩ := h hp
  exact ⟨b, off, rfl, Nat.lt_of_lt_of_le hx hb.size, fun i hi => (hb.cell (p := ⟨b, off + i, none⟩) hx).trans (hc i hi)⟩
theorem Rd.mk_ {w : World} {a : Addr} {len : Nat} {zs : List Int} (hl : len ≤ zs.length) (h : ∀ i, i < zs.length → w.cell? (a.add i) = some (.int .i64 (zs.getD i 0))) : Rd w (some a) len zs := fun hp => by
  obtain ⟨b, off, spot⟩ := a
  have h0 := h 0 (by omega)
  have hspot : spot = none := by simpa [Addr.add] using World.cell?_spot h0
  subst hspot
  refine ⟨b, off, rfl, World.block_lt_of_cell? w _ (by simpa [Addr.add] using h0), fun j hj => by rw [← Go.WideShapes.add_plain]; exact h j (by omega)⟩
theorem Rd.nil (w : World) (zs : List Int) : Rd w none 0 zs := fun hp => absurd hp (by omega)

theorem below_then {B : Nat} {a b c : World} (h : Below B a b) (k : Below b.heap.size b c) (hB : B ≤ b.heap.size) : Below B a c :=
  h.trans ⟨k.os, k.tape, k.output, k.size, fun i hi => k.block i (Nat.lt_of_lt_of_le hi hB)⟩
/-- What an average that was filled is. -/
def Fl (w : World) (s : Int) (g n : Nat) (wr : World) : Prop :=
  ∃ v c : Int, 0 ≤ v ∧ v ≤ 4611686018427387904 ∧ 0 ≤ c ∧ c ≤ n ∧ Av wr g s v c ∧ Below w.heap.size w wr
theorem filled_ok (s : Int) (a : Option Addr) (len cap : Nat) (zs : List Int) (w : World) (hs0 : 0 ≤ s) (hs1 : s ≤ 30) (hlen : len ≤ 1000) (hrd : Rd w a len zs) :
    Calls Try.prog 17 #[.int .i64 s, .slice a len cap] w fun e w' => e = .returned (.pointer (some ⟨w.heap.size, 0, none⟩)) ∧ Fl w s w.heap.size 1000 w' := by
  have HRD := Lib.hid hrd
  clear hrd
  go_enter Try.func17, Try.ntmps17
  go_wp2_with fail
  refine (new_ok s _ hs0 hs1).mono ?_
  rintro e w1 ⟨rfl, hw1⟩
  have A1 := Lib.hid (hw1 ▸ av_new w s : Av w1 w.heap.size s 0 0)
  have B1 := Lib.hid (hw1 ▸ (Below.refl w.heap.size w).alloc (Nat.le_refl _) _ : Below w.heap.size w w1)
  clear hw1
  go_wp2_with fail
  go_loopw [7] (fun v wr => ∃ k : Nat, k ≤ len ∧ v = .int .i64 k ∧ Fl w s w.heap.size k wr) (fun v _ => len - (intOf v).toNat)
  case atStart => exact ⟨0, Nat.zero_le _, rfl, 0, 0, by omega, by omega, by omega, by omega, A1.out, B1.out⟩
  case round =>
    obtain ⟨k, hk, rfl, v, c, hv0, hv1, hc0, hc1, hA, hB⟩ := hrel
    have HA := Lib.hid hA
    have HB := Lib.hid hB
    clear hA hB
    by_cases hlt : k < len
    · obtain ⟨b, off, rfl, hx, hcell⟩ := HRD.out (by omega)
      have hcw : wr.cell? ⟨b, off + k, none⟩ = some (.int .i64 (zs.getD k 0)) := by rw [HB.out.cell (p := ⟨b, off + k, none⟩) hx]; exact hcell k hlt
      generalize zs.getD k 0 = n at *
      clear hcell
      go_wp2_with fail
      by_cases hn : 0 ≤ n ∧ n ≤ 1073741824
      · obtain ⟨hn0, hn1⟩ := hn
        have hab := addv_bounds (s := s) (c := c) hv0 hv1 hn0 hn1
        refine (add_ok n HA.out hs0 hs1 hv0 hv1 hc0 (by omega) hn0 hn1).mono ?_
        rintro e wa ⟨rfl, hma, hA1⟩
        have HB2 : Hid (Fl w s w.heap.size (k + 1) wa) := Lib.hid ⟨addv s v c n, c + 1, hab.1, hab.2, by omega, by omega, hA1,
          Below.then_mod HB.out hma (fun i hi h => by omega) (Nat.le_refl _)⟩
        clear hma hA1 hab
        go_wp2
        go_roundw
        case rel => exact ⟨k + 1, by omega, by go_num, HB2.out⟩
        case measure => simp [intOf]; omega
      · refine (add_bad n w.heap.size (by omega)).mono ?_
        rintro e wa ⟨rfl, rfl⟩
        have HB2 : Hid (Fl w s w.heap.size (k + 1) wr) := Lib.hid ⟨v, c, hv0, hv1, hc0, by omega, HA.out, HB.out⟩
        clear hn
        go_wp2
        go_roundw
        case rel => exact ⟨k + 1, by omega, by go_num, HB2.out⟩
        case measure => simp [intOf]; omega
    · have HB2 : Hid (Fl w s w.heap.size 1000 wr) := Lib.hid ⟨v, c, hv0, hv1, hc0, by omega, HA.out, HB.out⟩
      go_wp2
      go_ret
      exact ⟨rfl, HB2.out⟩
theorem filled_bad (s : Int) (a : Option Addr) (len cap : Nat) (w : World) (h : len ≤ 1000) (hs : s < 0 ∨ 30 < s) :
    Calls Try.prog 17 #[.int .i64 s, .slice a len cap] w fun e w' => e = .returned (.pointer none) ∧ w = w' := by
  have HS := Lib.hid hs
  clear hs
  go_enter Try.func17, Try.ntmps17
  go_wp2_with fail
  refine (new_bad s _ HS.out).mono ?_
  rintro e w1 ⟨rfl, rfl⟩
  go_wp2_with fail
  refine wp_loop_rounds 1 ?_
  rw [rounds_succ]
  by_cases hz : 0 < len
  all_goals
    go_wp2_with fail
    go_ret
    exact ⟨rfl, rfl⟩

theorem moves_long (s : Int) (a : Option Addr) (len cap : Nat) (x : Int) (w : World) (h : 1000 < len) :
    Calls Try.prog 5 #[.int .i64 s, .slice a len cap, .int .i64 x] w fun e w' => e = .returned (.bool true) ∧ Below w.heap.size w w' := by
  go_enter Try.func5, Try.ntmps5
  go_wp2_with fail
  refine (works_ok _).mono ?_
  rintro e w3 ⟨rfl, hb3⟩
  go_wp2
  go_ret
  exact ⟨rfl, hb3⟩
theorem moves_bad (s : Int) (a : Option Addr) (len cap : Nat) (x : Int) (w : World) (h : len ≤ 1000) (hs : s < 0 ∨ 30 < s) :
    Calls Try.prog 5 #[.int .i64 s, .slice a len cap, .int .i64 x] w fun e w' => e = .returned (.bool true) ∧ Below w.heap.size w w' := by
  have HS := Lib.hid hs
  clear hs
  go_enter Try.func5, Try.ntmps5
  go_wp2_with fail
  refine (filled_bad s _ _ _ _ h HS.out).mono ?_
  rintro e w1 ⟨rfl, rfl⟩
  go_wp2_with fail
  refine (works_ok _).mono ?_
  rintro e w3 ⟨rfl, hb3⟩
  go_wp2
  go_ret
  exact ⟨rfl, hb3⟩
set_option maxRecDepth 100000 in
theorem moves_ok (s : Int) (a : Option Addr) (len cap : Nat) (zs : List Int) (x : Int) (w : World) (hs0 : 0 ≤ s) (hs1 : s ≤ 30) (hlen : len ≤ 1000) (hrd : Rd w a len zs) :
    Calls Try.prog 5 #[.int .i64 s, .slice a len cap, .int .i64 x] w fun e w' => e = .returned (.bool true) ∧ Below w.heap.size w w' := by
  have HRD := Lib.hid hrd
  clear hrd
  go_enter Try.func5, Try.ntmps5
  go_wp2_with fail
  refine (filled_ok s _ _ _ zs _ hs0 hs1 hlen HRD.out).mono ?_
  rintro e w1 ⟨rfl, v, c, hv0, hv1, hc0, hc1, hA, hB⟩
  have HA := Lib.hid hA
  have HB := Lib.hid hB
  clear hA hB
  go_wp2_with fail
  refine (value_any HA.out).mono ?_
  rintro e w' ⟨rfl, rfl⟩
  go_wp2_with fail
  refine (count_any HA.out).mono ?_
  rintro e w' ⟨rfl, rfl⟩
  go_wp2_with fail
  by_cases hn : 0 ≤ x ∧ x ≤ 1073741824
  · obtain ⟨hn0, hn1⟩ := hn
    have hab := addv_bounds (s := s) (c := c) hv0 hv1 hn0 hn1
    have hmv := addv_moves s v c x
    refine (add_ok x HA.out hs0 hs1 hv0 hv1 hc0 (by omega) hn0 hn1).mono ?_
    rintro e wa ⟨rfl, hma, hA1⟩
    have HB1 := Lib.hid (Below.then_mod HB.out hma (fun i hi h => by omega) (Nat.le_refl _))
    have HA1 := Lib.hid hA1
    have HMV := Lib.hid hmv
    clear hma hA1 hmv
    generalize addv s v c x = u at *
    go_wp2_with fail
    refine (value_any HA1.out).mono ?_
    rintro e w' ⟨rfl, rfl⟩
    by_cases h1 : v ≤ x * 4294967296
    · have h2 := (HMV.out.1 h1).1
      have h3 := (HMV.out.1 h1).2
      by_cases h4 : v = x * 4294967296
      · have h5 : u = x * 4294967296 := by omega
        have h6 : v = u := by omega
        subst h6
        clear h4
        have t1 : (v != x * 4294967296) = false := by rw [h5]; simp
        have t2 : (v == x * 4294967296) = true := by rw [h5]; simp
        clear h5
        go_wp2_with fail
        refine (count_any HA1.out).mono ?_
        rintro e w' ⟨rfl, rfl⟩
        go_wp2_with fail
        refine (works_ok _).mono ?_
        rintro e w3 ⟨rfl, hb3⟩
        have HB3 := Lib.hid hb3
        clear hb3
        go_wp2
        go_ret
        exact ⟨rfl, below_then HB1.out HB3.out HB1.out.size⟩
      · have t1 : (v != x * 4294967296) = true := by simpa using h4
        clear h4
        go_wp2_with fail
        refine (count_any HA1.out).mono ?_
        rintro e w' ⟨rfl, rfl⟩
        go_wp2_with fail
        refine (works_ok _).mono ?_
        rintro e w3 ⟨rfl, hb3⟩
        have HB3 := Lib.hid hb3
        clear hb3
        go_wp2
        go_ret
        exact ⟨rfl, below_then HB1.out HB3.out HB1.out.size⟩
    · have h2 := (HMV.out.2 (by omega)).1
      have h3 := (HMV.out.2 (by omega)).2
      have t1 : (v != x * 4294967296) = true := by rw [bne_iff_ne]; omega
      have h1' : x * 4294967296 ≤ v := by omega
      go_wp2_with fail
      refine (count_any HA1.out).mono ?_
      rintro e w' ⟨rfl, rfl⟩
      go_wp2_with fail
      refine (works_ok _).mono ?_
      rintro e w3 ⟨rfl, hb3⟩
      have HB3 := Lib.hid hb3
      clear hb3
      go_wp2
      go_ret
      exact ⟨rfl, below_then HB1.out HB3.out HB1.out.size⟩
  · refine (add_bad x w.heap.size (by omega)).mono ?_
    rintro e wa ⟨rfl, rfl⟩
    clear hn
    go_wp2_with fail
    refine (value_any HA.out).mono ?_
    rintro e w' ⟨rfl, rfl⟩
    go_wp2_with fail
    refine (count_any HA.out).mono ?_
    rintro e w' ⟨rfl, rfl⟩
    go_wp2_with fail
    refine (works_ok _).mono ?_
    rintro e w3 ⟨rfl, hb3⟩
    have HB3 := Lib.hid hb3
    clear hb3
    go_wp2
    go_ret
    exact ⟨rfl, below_then HB.out HB3.out HB.out.size⟩
end Go.Proofs.Ytejikplmmmjjpaa.Avg
