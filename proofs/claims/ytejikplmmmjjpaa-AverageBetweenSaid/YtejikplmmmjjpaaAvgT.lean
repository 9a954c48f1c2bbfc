/- The walk of the law AverageBetween: for every shift, every slice of numbers, every number and count it answers true, and writes nothing that was there. -/
import Derived.Test.YtejikplmmmjjpaaAvgF
namespace Go.Proofs.Ytejikplmmmjjpaa.Avg
open Go.RowKit Go.Proofs.Ytejikplmmmjjpaa.Mem Go.Proofs.Ytejikplmmmjjpaa.AvgM
set_option linter.unusedVariables false

theorem btw_long (s : Int) (a : Option Addr) (len cap : Nat) (x t : Int) (w : World) (h : 1000 < len) :
    Calls Try.prog 4 #[.int .i64 s, .slice a len cap, .int .i64 x, .int .u8 t] w fun e w' => e = .returned (.bool true) ∧ Below w.heap.size w w' := by
  go_enter Try.func4, Try.ntmps4
  go_wp2_with fail
  refine (works_ok _).mono ?_
  rintro e w3 ⟨rfl, hb3⟩
  go_wp2
  go_ret
  exact ⟨rfl, hb3⟩
theorem btw_bad (s : Int) (a : Option Addr) (len cap : Nat) (x t : Int) (w : World) (h : len ≤ 1000) (hs : s < 0 ∨ 30 < s) :
    Calls Try.prog 4 #[.int .i64 s, .slice a len cap, .int .i64 x, .int .u8 t] w fun e w' => e = .returned (.bool true) ∧ Below w.heap.size w w' := by
  have HS := Lib.hid hs
  clear hs
  go_enter Try.func4, Try.ntmps4
  go_wp2_with fail
  refine (new_bad s _ HS.out).mono ?_
  rintro e w1 ⟨rfl, rfl⟩
  go_wp2_with fail
  refine (new_bad s _ HS.out).mono ?_
  rintro e w1 ⟨rfl, rfl⟩
  go_wp2_with fail
  refine (works_ok _).mono ?_
  rintro e w3 ⟨rfl, hb3⟩
  go_wp2
  go_ret
  exact ⟨rfl, hb3⟩
/-- What holds between two rounds of the first loop. -/
def Btw (w : World) (s : Int) (g g' : Nat) (low high : Int) (taken : Bool) (k : Nat) (wr : World) : Prop :=
  ∃ v c : Int, 0 ≤ v ∧ v ≤ 4611686018427387904 ∧ 0 ≤ c ∧ c ≤ k ∧ Av wr g s v c ∧ Av wr g' s 0 0 ∧ Below w.heap.size w wr ∧ 0 ≤ low ∧ low ≤ high ∧ high ≤ 1073741824 ∧
    (taken = false → c = 0 ∧ v = 0) ∧ (taken = true → low * 4294967296 ≤ v ∧ v ≤ high * 4294967296)
def Btx (w : World) (s x : Int) (g' : Nat) (k : Nat) (wr : World) : Prop :=
  ∃ v c : Int, 0 ≤ v ∧ v ≤ 4611686018427387904 ∧ 0 ≤ c ∧ c ≤ k ∧ Av wr g' s v c ∧ Below w.heap.size w wr ∧ (c = 0 ∧ v = 0 ∨ v = x * 4294967296)
theorem btw_first {s c v x : Int} (hc : c = 0) (hv : v = 0) : addv s v c x = x * 4294967296 := by rw [hc, hv]; exact addv_first s x
theorem btx_next {s c v x : Int} (h : c = 0 ∧ v = 0 ∨ v = x * 4294967296) : addv s v c x = x * 4294967296 := by
  rcases h with ⟨hc, hv⟩ | h
  · exact btw_first hc hv
  · have := addv_moves s v c x
    have := this.1 (by omega)
    omega
set_option maxRecDepth 100000 in
theorem btw_second (s x t : Int) (g' : Nat) (w wr : World) (hs0 : 0 ≤ s) (hs1 : s ≤ 30) (ht0 : 0 ≤ t) (ht1 : t ≤ 255) (hA : Av wr g' s 0 0) (hB : Below w.heap.size w wr) : Btx w s x g' 0 wr :=
  ⟨0, 0, by omega, by omega, by omega, by omega, hA, hB, .inl ⟨rfl, rfl⟩⟩
set_option maxRecDepth 100000 in
set_option maxHeartbeats 1000000 in
theorem btw_ok (s : Int) (a : Option Addr) (len cap : Nat) (zs : List Int) (x t : Int) (w : World) (hs0 : 0 ≤ s) (hs1 : s ≤ 30) (hlen : len ≤ 1000) (ht0 : 0 ≤ t) (ht1 : t ≤ 255) (hrd : Rd w a len zs) :
    Calls Try.prog 4 #[.int .i64 s, .slice a len cap, .int .i64 x, .int .u8 t] w fun e w' => e = .returned (.bool true) ∧ Below w.heap.size w w' := by
  have HRD := Lib.hid hrd
  clear hrd
  go_enter Try.func4, Try.ntmps4
  go_wp2_with fail
  refine (new_ok s _ hs0 hs1).mono ?_
  rintro e w1 ⟨rfl, hw1⟩
  have A1 := Lib.hid (hw1 ▸ av_new w s : Av w1 w.heap.size s 0 0)
  have B1 := Lib.hid (hw1 ▸ (Below.refl w.heap.size w).alloc (Nat.le_refl _) _ : Below w.heap.size w w1)
  clear hw1
  go_wp2_with fail
  refine (new_ok s _ hs0 hs1).mono ?_
  rintro e w2 ⟨rfl, hw2⟩
  have R2 := Lib.hid (hw2 ▸ av_new w1 s : Av w2 w1.heap.size s 0 0)
  have A2 := Lib.hid (hw2 ▸ Blk.alloc A1.out _ : Av w2 w.heap.size s 0 0)
  have B2 := Lib.hid (hw2 ▸ B1.out.alloc B1.out.size _ : Below w.heap.size w w2)
  have hg1 : w.heap.size < w1.heap.size := Blk.lt A1.out
  generalize w1.heap.size = g' at *
  clear hw2 A1 B1
  go_wp2_with fail
  go_loopw [13, 14, 15, 16] (fun lo hi tk v wr => ∃ (low high : Int) (taken : Bool) (k : Nat), k ≤ len ∧ lo = .int .i64 low ∧ hi = .int .i64 high ∧ tk = .bool taken ∧ v = .int .i64 k ∧ Btw w s w.heap.size g' low high taken k wr) (fun _ _ _ v _ => len - (intOf v).toNat)
  case atStart => exact ⟨0, 0, false, 0, Nat.zero_le _, rfl, rfl, rfl, rfl, 0, 0, by omega, by omega, by omega, by omega, A2.out, R2.out, B2.out, by omega, by omega, by omega, (fun _ => ⟨rfl, rfl⟩), (fun h => by cases h)⟩
  case round =>
    obtain ⟨low, high, taken, k, hk, rfl, rfl, rfl, rfl, v, c, hv0, hv1, hc0, hc1, hA, hR, hB, hl0, hl1, hl2, hf, ht⟩ := hrel
    have HA := Lib.hid hA
    have HR := Lib.hid hR
    have HB := Lib.hid hB
    have HF := Lib.hid hf
    have HT := Lib.hid ht
    clear hA hB hR hf ht
    by_cases hlt : k < len
    · obtain ⟨b, off, rfl, hx, hcell⟩ := HRD.out (by omega)
      have hcw : wr.cell? ⟨b, off + k, none⟩ = some (.int .i64 (zs.getD k 0)) := by rw [HB.out.cell (p := ⟨b, off + k, none⟩) hx]; exact hcell k hlt
      generalize zs.getD k 0 = n at *
      clear hcell
      go_wp2_with fail
      by_cases hn : 0 ≤ n ∧ n ≤ 1073741824
      · obtain ⟨hn0, hn1⟩ := hn
        have hab := addv_bounds (s := s) (c := c) hv0 hv1 hn0 hn1
        have hmv := addv_moves s v c n
        have hfirst := Lib.hid (fun (h : taken = false) => btw_first (s := s) (x := n) (HF.out h).1 (HF.out h).2)
        refine (add_ok n HA.out hs0 hs1 hv0 hv1 hc0 (by omega) hn0 hn1).mono ?_
        rintro e wa ⟨rfl, hma, hA1⟩
        have HB1 := Lib.hid (Below.then_mod HB.out hma (fun i hi h => by omega) (Nat.le_refl _))
        have HA1 := Lib.hid hA1
        have HR1 := Lib.hid (show Av wa g' s 0 0 from Blk.mod HR.out hma (by omega))
        have hca : wa.cell? ⟨b, off + k, none⟩ = some (.int .i64 n) := by
          rw [World.cell?_of_block (hma.block b (Nat.lt_of_lt_of_le hx HB.out.size) (by omega))]; exact hcw
        have HMV := Lib.hid hmv
        clear hma hA1 hmv hcw
        generalize addv s v c n = u at *
        obtain ⟨hu0, hu1⟩ := hab
        cases taken with
        | false =>
          have HU := Lib.hid (hfirst.out rfl)
          go_wp2_with fail
          all_goals
            have hu2 : n * 4294967296 ≤ u := by have := HU.out; omega
            have hu3 : u ≤ n * 4294967296 := by have := HU.out; omega
            refine (value_any HA1.out).mono ?_
            rintro e w' ⟨rfl, rfl⟩
            go_wp2_with fail
            refine (value_any HA1.out).mono ?_
            rintro e w' ⟨rfl, rfl⟩
            go_wp2
            go_roundw
            case rel => exact ⟨n, n, true, k + 1, by omega, rfl, rfl, rfl, by go_num, u, c + 1, hu0, hu1, by omega, by omega, HA1.out, HR1.out, HB1.out, hn0, by omega, hn1, (fun h => by cases h), fun _ => ⟨hu2, hu3⟩⟩
            case measure => simp [intOf]; omega
        | true =>
          have ht1 := (HT.out rfl).1
          have ht2 := (HT.out rfl).2
          have hm : (if n < low then n else low) * 4294967296 ≤ u ∧ u ≤ (if high < n then n else high) * 4294967296 := by
            have h1 := HMV.out.1
            have h2 := HMV.out.2
            split <;> split <;> omega
          by_cases h1 : n < low
          · have h2 : ¬ high < n := by omega
            rw [if_pos h1, if_neg h2] at hm
            obtain ⟨hm1, hm2⟩ := hm
            go_wp2_with fail
            refine (value_any HA1.out).mono ?_
            rintro e w' ⟨rfl, rfl⟩
            go_wp2_with fail
            refine (value_any HA1.out).mono ?_
            rintro e w' ⟨rfl, rfl⟩
            go_wp2
            go_roundw
            case rel => exact ⟨n, high, true, k + 1, by omega, rfl, rfl, rfl, by go_num, u, c + 1, hu0, hu1, by omega, by omega, HA1.out, HR1.out, HB1.out, hn0, by omega, hl2, (fun h => by cases h), fun _ => ⟨hm1, hm2⟩⟩
            case measure => simp [intOf]; omega
          · by_cases h2 : high < n
            · rw [if_neg h1, if_pos h2] at hm
              obtain ⟨hm1, hm2⟩ := hm
              go_wp2_with fail
              refine (value_any HA1.out).mono ?_
              rintro e w' ⟨rfl, rfl⟩
              go_wp2_with fail
              refine (value_any HA1.out).mono ?_
              rintro e w' ⟨rfl, rfl⟩
              go_wp2
              go_roundw
              case rel => exact ⟨low, n, true, k + 1, by omega, rfl, rfl, rfl, by go_num, u, c + 1, hu0, hu1, by omega, by omega, HA1.out, HR1.out, HB1.out, hl0, by omega, hn1, (fun h => by cases h), fun _ => ⟨hm1, hm2⟩⟩
              case measure => simp [intOf]; omega
            · rw [if_neg h1, if_neg h2] at hm
              obtain ⟨hm1, hm2⟩ := hm
              go_wp2_with fail
              refine (value_any HA1.out).mono ?_
              rintro e w' ⟨rfl, rfl⟩
              go_wp2_with fail
              refine (value_any HA1.out).mono ?_
              rintro e w' ⟨rfl, rfl⟩
              go_wp2
              go_roundw
              case rel => exact ⟨low, high, true, k + 1, by omega, rfl, rfl, rfl, by go_num, u, c + 1, hu0, hu1, by omega, by omega, HA1.out, HR1.out, HB1.out, hl0, by omega, hl2, (fun h => by cases h), fun _ => ⟨hm1, hm2⟩⟩
              case measure => simp [intOf]; omega
      · refine (add_bad n w.heap.size (by omega)).mono ?_
        rintro e wa ⟨rfl, rfl⟩
        clear hn
        go_wp2
        go_roundw
        case rel => exact ⟨low, high, taken, k + 1, by omega, rfl, rfl, rfl, by go_num, v, c, hv0, hv1, hc0, by omega, HA.out, HR.out, HB.out, hl0, hl1, hl2, HF.out, HT.out⟩
        case measure => simp [intOf]; omega
    · have HX := Lib.hid (btw_second s x t g' w wr hs0 hs1 ht0 ht1 HR.out HB.out)
      clear HF HT HA HR HB A2 R2 B2
      go_wp2_with fail
      go_loopw [17] (fun v wr => ∃ k : Nat, (k : Int) ≤ t ∧ v = .int .i64 k ∧ Btx w s x g' k wr) (fun v _ => t.toNat - (intOf v).toNat)
      case atStart => exact ⟨0, by omega, rfl, HX.out⟩
      case round =>
        obtain ⟨j, hj, rfl, v2, c2, hv20, hv21, hc20, hc21, hA2, hB2, hvx⟩ := hrel
        have HA2 := Lib.hid hA2
        have HB2 := Lib.hid hB2
        have HVX := Lib.hid hvx
        clear hA2 hB2 hvx
        by_cases hlt2 : (j : Int) < t
        · go_wp2_with fail
          by_cases hn : 0 ≤ x ∧ x ≤ 1073741824
          · obtain ⟨hn0, hn1⟩ := hn
            have hab := addv_bounds (s := s) (c := c2) hv20 hv21 hn0 hn1
            have HNX := Lib.hid (btx_next (s := s) HVX.out)
            refine (add_ok x HA2.out hs0 hs1 hv20 hv21 hc20 (by omega) hn0 hn1).mono ?_
            rintro e wa ⟨rfl, hma, hA3⟩
            have HA3 := Lib.hid (HNX.out ▸ hA3)
            have HB3 := Lib.hid (Below.then_mod HB2.out hma (fun i hi h => by omega) (Nat.le_refl _))
            clear hma hA3 hab
            go_wp2_with fail
            refine (value_any HA3.out).mono ?_
            rintro e w' ⟨rfl, rfl⟩
            go_wp2
            go_roundw
            case rel => exact ⟨j + 1, by omega, by go_num, _, _, by omega, by omega, by omega, by omega, HA3.out, HB3.out, .inr rfl⟩
            case measure => simp [intOf]; omega
          · refine (add_bad x g' (by omega)).mono ?_
            rintro e wa ⟨rfl, rfl⟩
            clear hn
            go_wp2
            go_roundw
            case rel => exact ⟨j + 1, by omega, by go_num, _, _, hv20, hv21, hc20, by omega, HA2.out, HB2.out, HVX.out⟩
            case measure => simp [intOf]; omega
        · go_wp2_with fail
          refine (works_ok _).mono ?_
          rintro e w3 ⟨rfl, hb3⟩
          have HB3 := Lib.hid hb3
          clear hb3
          go_wp2
          go_ret
          exact ⟨rfl, below_then HB2.out HB3.out HB2.out.size⟩
end Go.Proofs.Ytejikplmmmjjpaa.Avg
