/- The law AverageAdds, walked: for every shift and every slice of numbers it answers true, and writes nothing that was there. -/
import Derived.Test.YtejikplmmmjjpaaAvgK
import Derived.Deep.RegionHeld3
import Derived.Deep.DeepCutAuto
import Derived.WideShapes
namespace Go.Proofs.Ytejikplmmmjjpaa.Avg
open Go.RowKit Go.Proofs.Ytejikplmmmjjpaa.Mem Go.Proofs.Ytejikplmmmjjpaa.AvgM
set_option linter.unusedVariables false

/-- A slice of numbers that can be read. -/
def Rd (w : World) (a : Option Addr) (len : Nat) (zs : List Int) : Prop :=
  0 < len → ∃ b off, a = some ⟨b, off, none⟩ ∧ b < w.heap.size ∧ ∀ i, i < len → w.cell? ⟨b, off + i, none⟩ = some (.int .i64 (zs.getD i 0))
theorem Rd.below {w w' : World} {a : Option Addr} {len : Nat} {zs : List Int} (h : Rd w a len zs) (hb : Below w.heap.size w w') : Rd w' a len zs := fun hp => by
  obtain ⟨b, off, rfl, hx, hc⟩ := h hp
  exact ⟨b, off, rfl, Nat.lt_of_lt_of_le hx hb.size, fun i hi => (hb.cell (p := ⟨b, off + i, none⟩) hx).trans (hc i hi)⟩
theorem Rd.mk_ {w : World} {a : Addr} {len : Nat} {zs : List Int} (hl : len ≤ zs.length) (h : ∀ i, i < zs.length → w.cell? (a.add i) = some (.int .i64 (zs.getD i 0))) : Rd w (some a) len zs := fun hp => by
  obtain ⟨b, off, spot⟩ := a
  have h0 := h 0 (by omega)
  have hspot : spot = none := by simpa [Addr.add] using World.cell?_spot h0
  subst hspot
  refine ⟨b, off, rfl, World.block_lt_of_cell? w _ (by simpa [Addr.add] using h0), fun j hj => by rw [← Go.WideShapes.add_plain]; exact h j (by omega)⟩
theorem Rd.nil (w : World) (zs : List Int) : Rd w none 0 zs := fun hp => absurd hp (by omega)

theorem below_then {B : Nat} {a b c : World} (h : Below B a b) (k : Below b.heap.size b c) (hB : B ≤ b.heap.size := by exact h.size) : Below B a c :=
  h.trans ⟨k.os, k.tape, k.output, k.size, fun i hi => k.block i (Nat.lt_of_lt_of_le hi hB)⟩
def AddRel (w : World) (s : Int) (g g' : Nat) (k : Nat) (wr : World) : Prop :=
  ∃ v c : Int, 0 ≤ v ∧ v ≤ 4611686018427387904 ∧ 0 ≤ c ∧ c ≤ k ∧ Av wr g s v c ∧ Rv wr g' s v c ∧ Below w.heap.size w wr
set_option maxRecDepth 100000 in
theorem adds_walk (s : Int) (a : Option Addr) (len cap : Nat) (zs : List Int) (w : World) (hs0 : 0 ≤ s) (hs1 : s ≤ 30) (hlen : len ≤ 1000) (hrd : Rd w a len zs) :
    Calls Try.prog 3 #[.int .i64 s, .slice a len cap] w fun e w' => e = .returned (.bool true) ∧ Below w.heap.size w w' := by
  have HRD := Lib.hid hrd
  clear hrd
  go_enter Try.func3, Try.ntmps3
  go_wp2_with fail
  refine (new_ok s _ hs0 hs1).mono ?_
  rintro e w1 ⟨rfl, hw1⟩
  have A1 := Lib.hid (hw1 ▸ av_new w s : Av w1 w.heap.size s 0 0)
  have B1 := Lib.hid (hw1 ▸ (Below.refl w.heap.size w).alloc (Nat.le_refl _) _ : Below w.heap.size w w1)
  clear hw1
  go_wp2_with fail
  refine (rnew_ok s _ hs0 hs1).mono ?_
  rintro e w2 ⟨rfl, hw2⟩
  have R2 := Lib.hid (hw2 ▸ rv_new w1 s : Rv w2 w1.heap.size s 0 0)
  have A2 := Lib.hid (hw2 ▸ Blk.alloc A1.out _ : Av w2 w.heap.size s 0 0)
  have B2 := Lib.hid (hw2 ▸ B1.out.alloc B1.out.size _ : Below w.heap.size w w2)
  have hg1 : w.heap.size < w1.heap.size := Blk.lt A1.out
  generalize w1.heap.size = g' at *
  clear hw2 A1 B1
  go_wp2_with fail
  go_loopw [9, 10, 11] (fun v x y wr => ∃ k : Nat, k ≤ len ∧ v = .int .i64 k ∧ AddRel w s w.heap.size g' k wr) (fun v _ _ _ => len - (intOf v).toNat)
  case atStart => exact ⟨0, Nat.zero_le _, rfl, 0, 0, by omega, by omega, by omega, by omega, A2.out, R2.out, B2.out⟩
  case round =>
    obtain ⟨k, hk, rfl, v, c, hv0, hv1, hc0, hc1, hA, hR, hB⟩ := hrel
    have HA := Lib.hid hA
    have HR := Lib.hid hR
    have HB := Lib.hid hB
    clear hA hR hB
    by_cases hlt : k < len
    · obtain ⟨b, off, rfl, hx, hcell⟩ := HRD.out (by omega)
      have hcw : wr.cell? ⟨b, off + k, none⟩ = some (.int .i64 (zs.getD k 0)) := by rw [HB.out.cell (p := ⟨b, off + k, none⟩) hx]; exact hcell k hlt
      generalize zs.getD k 0 = n at *
      clear hcell
      by_cases hn : 0 ≤ n ∧ n ≤ 1073741824
      · obtain ⟨hn0, hn1⟩ := hn
        have hab := addv_bounds (s := s) (c := c) hv0 hv1 hn0 hn1
        go_wp2_with fail
        go_region_held3 (fun w' => w'.cell? ⟨b, off + k, none⟩ = some (.int .i64 n)) (first | exact hcw | exact hcw1 | exact hcw2)
          (first
            | (go_at_call 13
               refine (add_ok n (Blk.drew HA.out) hs0 hs1 hv0 hv1 hc0 (by omega) hn0 hn1).mono ?_
               rintro e wa ⟨rfl, hma, hA1⟩
               have hcw1 : wa.cell? ⟨b, off + k, none⟩ = some (.int .i64 n) := by
                 rw [World.cell?_of_block (hma.block b (Nat.lt_of_lt_of_le hx HB.out.size) (by omega))]; exact hcw
               have HA1 := Lib.hid hA1
               have HMA := Lib.hid hma
               clear hA1 hma)
            | (go_at_call 14
               refine (radd_ok n (Blk.mod (Blk.drew HR.out) HMA.out (by omega)) hs0 hs1 hv0 hv1 hc0 (by omega) hn0 hn1).mono ?_
               rintro e wb ⟨rfl, hmb, hR1⟩
               have hcw2 : wb.cell? ⟨b, off + k, none⟩ = some (.int .i64 n) := by
                 rw [World.cell?_of_block (hmb.block b (Nat.lt_of_lt_of_le (Nat.lt_of_lt_of_le hx HB.out.size) HMA.out.size) (by omega))]; exact hcw1
               have HR1 := Lib.hid hR1
               have HMB := Lib.hid hmb
               clear hR1 hmb))
        have HB2 : Hid (AddRel w s w.heap.size g' (k + 1) wb) := Lib.hid ⟨addv s v c n, c + 1, hab.1, hab.2, by omega, by omega, Blk.mod HA1.out HMB.out (by omega), HR1.out,
          Below.then_mod (Below.then_mod HB.out.drew HMA.out (fun i hi h => by omega) (Nat.le_refl _)) HMB.out (fun i hi h => by omega) (Nat.le_refl _)⟩
        have hA2 : Av wb w.heap.size s (addv s v c n) (c + 1) := Blk.mod HA1.out HMB.out (by omega)
        have HA2 := Lib.hid hA2
        have cv : wb.cell? ⟨g', 1, none⟩ = some (.int .i64 (addv s v c n)) := Blk.cell HR1.out 1
        have cn : wb.cell? ⟨g', 2, none⟩ = some (.int .i64 (c + 1)) := Blk.cell HR1.out 2
        clear hA2 hcw2 hcw1 hcw
        go_wp2_with fail
        go_quiet (first
          | (go_at_call 15; exact qs (value_any (Blk.drewN HA2.out _)) ⟨_, rfl⟩)
          | (go_at_call 16; exact qs (count_any (Blk.drewN HA2.out _)) ⟨_, rfl⟩))
        go_wp2
        go_roundw
        case rel =>
          obtain ⟨v', c', h1, h2, h3, h4, h5, h6, h7⟩ := HB2.out
          exact ⟨k + 1, by omega, by go_num, v', c', h1, h2, h3, h4, h5, h6, belowN h7 _⟩
        case measure => simp [intOf]; omega
      · have hbad : n < 0 ∨ 1073741824 < n := by omega
        have HN := Lib.hid hbad
        clear hbad hn
        go_wp2_with fail
        go_region_held3 (fun w' => w'.cell? ⟨b, off + k, none⟩ = some (.int .i64 n)) (first | exact hcw)
          (first
            | (go_at_call 13
               refine (add_bad n w.heap.size HN.out).mono ?_
               rintro e wa ⟨rfl, rfl⟩)
            | (go_at_call 14
               refine (radd_bad n g' HN.out).mono ?_
               rintro e wb ⟨rfl, rfl⟩))
        have HB2 : Hid (AddRel w s w.heap.size g' (k + 1) wr) := Lib.hid ⟨v, c, hv0, hv1, hc0, by omega, HA.out, HR.out, HB.out⟩
        have cv : wr.cell? ⟨g', 1, none⟩ = some (.int .i64 v) := Blk.cell HR.out 1
        have cn : wr.cell? ⟨g', 2, none⟩ = some (.int .i64 c) := Blk.cell HR.out 2
        clear hcw
        go_wp2_with fail
        go_quiet (first
          | (go_at_call 15; exact qs (value_any (Blk.drewN HA.out _)) ⟨_, rfl⟩)
          | (go_at_call 16; exact qs (count_any (Blk.drewN HA.out _)) ⟨_, rfl⟩))
        go_wp2
        go_roundw
        case rel =>
          obtain ⟨v', c', h1, h2, h3, h4, h5, h6, h7⟩ := HB2.out
          exact ⟨k + 1, by omega, by go_num, v', c', h1, h2, h3, h4, h5, h6, belowN h7 _⟩
        case measure => simp [intOf]; omega
    · go_wp2_with fail
      refine (works_ok _).mono ?_
      rintro e w3 ⟨rfl, hb3⟩
      have HB3 := Lib.hid hb3
      clear hb3
      go_wp2
      go_ret
      exact ⟨rfl, below_then HB.out HB3.out HB.out.size⟩
theorem adds_bad (s : Int) (a : Option Addr) (len cap : Nat) (w : World) (h : len ≤ 1000) (hs : s < 0 ∨ 30 < s) :
    Calls Try.prog 3 #[.int .i64 s, .slice a len cap] w fun e w' => e = .returned (.bool true) ∧ Below w.heap.size w w' := by
  have HS := Lib.hid hs
  clear hs
  go_enter Try.func3, Try.ntmps3
  go_wp2_with fail
  refine (new_bad s _ HS.out).mono ?_
  rintro e w1 ⟨rfl, rfl⟩
  go_wp2_with fail
  refine (rnew_bad s _ HS.out).mono ?_
  rintro e w1 ⟨rfl, rfl⟩
  go_wp2_with fail
  refine wp_loop_rounds 1 ?_
  rw [rounds_succ]
  by_cases hz : 0 < len
  all_goals
    go_wp2_with fail
    refine (works_ok _).mono ?_
    rintro e w3 ⟨rfl, hb3⟩
    go_wp2
    go_ret
    exact ⟨rfl, hb3⟩
theorem adds_long (s : Int) (a : Option Addr) (len cap : Nat) (w : World) (h : 1000 < len) :
    Calls Try.prog 3 #[.int .i64 s, .slice a len cap] w fun e w' => e = .returned (.bool true) ∧ Below w.heap.size w w' := by
  go_enter Try.func3, Try.ntmps3
  go_wp2_with fail
  refine (works_ok _).mono ?_
  rintro e w3 ⟨rfl, hb3⟩
  go_wp2
  go_ret
  exact ⟨rfl, hb3⟩
end Go.Proofs.Ytejikplmmmjjpaa.Avg
