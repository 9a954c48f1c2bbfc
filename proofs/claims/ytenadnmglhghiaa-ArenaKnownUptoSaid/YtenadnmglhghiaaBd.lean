/- Arena, the statements' tells: what both tell of themselves. Conditions: the memory, at most 1048576 literals a clause. -/
import Derived.Test.YtenadnmglhghiaaBc
namespace Go.Proofs.Ytenadnmglhghiaa.Ar
open Go.RowKit Go.Proofs.Ytenadnmglhghiaa.Mem Go.Proofs.Ytenadnmglhghiaa.Sl Go.Shelf
open Go.Proofs.Ytenadnmglhghiaa.FnL (enc_at below_then)
open Go.Proofs.Ytenadnmglhghiaa.Lt (Later wp_region_later)
set_option linter.unusedVariables false

section
variable {w : World} {base B gd : Nat} {q : AAd} {S : Nat → Prop} {lim : Int} {its : List Itm}
/-- Clauses of a size that the statements can read. -/
def Sm (its : List Itm) : Prop := ∀ x, x ∈ its → x.l.length ≤ 1048576
theorem Sm.get (h : Sm its) (r : Int) : (get its r).l.length ≤ 1048576 := by
  rcases find_cases its r with ⟨_, _, h2⟩ | ⟨i, hi, _, _, h2, _, _⟩
  · rw [h2]; decide
  · rw [h2]; exact h _ (List.getElem_mem hi)
theorem RX.refs_any (h : RX w B S gd lim its) : Calls Try.prog 34 #[.pointer (some ⟨gd, 0, none⟩)] w fun e w' => RRefsR w (refs its) e w' ∧ Below w.heap.size w w' := by
  obtain ⟨A, c, z, e, h⟩ := h
  subst e
  exact rrefs_any h
theorem RX.words_any (h : RX w B S gd lim its) : Calls Try.prog 41 #[.pointer (some ⟨gd, 0, none⟩)] w fun e w' => e = .returned (.tuple #[.int .i64 (sumw its : Nat), .int .i64 (waste its : Nat)]) ∧ Below w.heap.size w w' := by
  obtain ⟨A, c, z, e, h⟩ := h
  subst e
  exact rwords_any h
theorem RX.bd (h : RX w B S gd lim its) : sumw its ≤ 268435456 ∧ waste its ≤ sumw its ∧ (refs its).length ≤ 268435456 ∧ ∀ r, r ∈ refs its → r ≤ 268435456 := by
  obtain ⟨A, c, z, e, h⟩ := h
  subst e
  have h1 : sumw (itm z) ≤ 268435456 := by have := h.l0; have := h.l1; omega
  refine ⟨h1, waste_le h.ok, ?_, fun r hr => ?_⟩
  · rw [← keep_len]
    unfold keep
    rw [List.length_map]
    have := List.length_filter_le (fun x : Itm => !x.dead) (itm z)
    have := len_le h.ok
    omega
  · obtain ⟨i, hi, e, _⟩ := mem_refs.1 hr
    have h2 : sumw (itm z) = sumw ((itm z).take i) + sumw ((itm z).drop i) := by rw [← sumw_append, List.take_append_drop]
    omega
set_option maxRecDepth 100000 in
set_option maxHeartbeats 4000000 in
theorem tells_any (h : AR w base q lim its) (hd : RX w B S gd lim its) (hs : Sm its) :
    Calls Try.prog 22 #[.pointer (some ⟨q.g, 0, none⟩), .pointer (some ⟨gd, 0, none⟩)] w fun e w' => e = .returned (.bool true) ∧ Below w.heap.size w w' := by
  have HR := Lib.hid (refs_any h)
  have HRD := Lib.hid (fun W (hb : Below w.heap.size w W) => (hd.below hb).refs_any)
  have HW := Lib.hid (fun W (hb : Below w.heap.size w W) => words_any (h.below hb))
  have HWD := Lib.hid (fun W (hb : Below w.heap.size w W) => (hd.below hb).words_any)
  have HC := Lib.hid (fun W (hb : Below w.heap.size w W) r hr => clause_any (h.below hb) (hd.below hb) r hr (hs.get r))
  obtain ⟨hb1, hb2, hb3, hb4⟩ := hd.bd
  have HB4 := Lib.hid hb4
  clear h hd hs hb4
  generalize sumw its = sw at *
  generalize waste its = wa at *
  generalize refs its = rf at *
  obtain ⟨n, hn⟩ : ∃ n, rf.length = n := ⟨_, rfl⟩
  have HN := Lib.hid hn
  unfold RefsR at HR
  unfold RRefsR at HRD
  rw [hn] at HR HRD hb3
  clear hn
  go_enter Try.func22, Try.ntmps22
  go_wp2_with fail
  refine HR.out.mono ?_
  rintro e w1 ⟨⟨A1, c1, rfl, hO1⟩, hb1⟩
  have HB1 := Lib.hid hb1
  have HO1 := Lib.hid hO1
  clear hb1 hO1
  go_wp2_with fail
  refine (HRD.out w1 HB1.out).mono ?_
  rintro e w2 ⟨⟨A2, c2, rfl, hO2⟩, hb2⟩
  have HB2 := Lib.hid (below_then HB1.out hb2 HB1.out.size)
  have HO2 := Lib.hid hO2
  have HO1 := Lib.hid (HO1.out.below hb2)
  clear hb2 hO2
  go_wp2_with fail
  refine (HW.out w2 HB2.out).mono ?_
  rintro e w3 ⟨rfl, hb3⟩
  have HB3 := Lib.hid (below_then HB2.out hb3 HB2.out.size)
  have HO1 := Lib.hid (HO1.out.below hb3)
  have HO2 := Lib.hid (HO2.out.below hb3)
  clear hb3
  go_wp2_with fail
  refine (HWD.out w3 HB3.out).mono ?_
  rintro e w4 ⟨rfl, hb4⟩
  have HB4' := Lib.hid (below_then HB3.out hb4 HB3.out.size)
  have HO1 := Lib.hid (HO1.out.below hb4)
  have HO2 := Lib.hid (HO2.out.below hb4)
  clear hb4
  go_wp2_with fail
  refine (HC.out w4 HB4'.out (-1) (by unfold inI; omega)).mono ?_
  rintro e w5 ⟨rfl, hb5⟩
  have HB5 := Lib.hid (below_then HB4'.out hb5 HB4'.out.size)
  have HO1 := Lib.hid (HO1.out.below hb5)
  have HO2 := Lib.hid (HO2.out.below hb5)
  clear hb5
  go_wp2_with fail
  refine (HC.out w5 HB5.out (sw : Nat) (by unfold inI; omega)).mono ?_
  rintro e w6 ⟨rfl, hb6⟩
  have HB6 := Lib.hid (below_then HB5.out hb6 HB5.out.size)
  have HO1 := Lib.hid (HO1.out.below hb6)
  have HO2 := Lib.hid (HO2.out.below hb6)
  clear hb6
  go_wp2_with fail
  refine (HC.out w6 HB6.out 3 (by unfold inI; omega)).mono ?_
  rintro e w7 ⟨rfl, hb7⟩
  have HB7 := Lib.hid (below_then HB6.out hb7 HB6.out.size)
  have HO1 := Lib.hid (HO1.out.below hb7)
  have HO2 := Lib.hid (HO2.out.below hb7)
  clear hb7 HB1 HB2 HB3 HB4' HB5 HB6 HW HWD HR HRD
  go_wp2_with fail
  go_loopw [11] (fun i wr => ∃ k : Nat, k ≤ n ∧ i = .int .i64 k ∧ Below w7.heap.size w7 wr) (fun i _ => n - (intOf i).toNat)
  case atStart => exact ⟨0, Nat.zero_le _, rfl, Below.refl _ _⟩
  case round =>
    obtain ⟨k, hk, rfl, hb⟩ := hrel
    have HB := Lib.hid hb
    have HBW := Lib.hid (below_then HB7.out hb HB7.out.size)
    clear hb
    by_cases hlt : k < n
    · have hkr : k < rf.length := by rw [HN.out]; exact hlt
      have hrb : rf[k] ≤ 268435456 := HB4.out _ (List.getElem_mem hkr)
      obtain ⟨ga, eA, _, hrow1⟩ := (HO1.out.below HB.out).row (by omega)
      obtain ⟨gb, eB, _, hrow2⟩ := (HO2.out.below HB.out).row (by omega)
      subst eA eB
      have hg1 := hrow1.lt
      have hg2 := hrow2.lt
      have L1 : ∀ p : Later wr, p.w'.cell? ⟨ga, k, none⟩ = some (.int .i64 (rf[k] : Nat)) := fun p => (p.h.cell (p := ⟨ga, k, none⟩) hg1).trans (hrow1.cell (by unfold NZ; rw [List.getElem?_map, List.getElem?_map, List.getElem?_eq_getElem hkr]; rfl))
      have L2 : ∀ p : Later wr, p.w'.cell? ⟨gb, k, none⟩ = some (.int .i64 (rf[k] : Nat)) := fun p => (p.h.cell (p := ⟨gb, k, none⟩) hg2).trans (hrow2.cell (by unfold IZ NZ; rw [List.getElem?_map, List.getElem?_map, List.getElem?_eq_getElem hkr]; rfl))
      generalize rf[k] = r at *
      have hir : inI ((r : Nat) : Int) := by unfold inI; omega
      have HCW := Lib.hid (fun W (hb : Below wr.heap.size wr W) => HC.out W (below_then HBW.out hb HBW.out.size) ((r : Nat) : Int) hir)
      have M1 := Lib.hid (Later.meet (w := wr) (v := .bool true) fun W hb => HCW.out W hb)
      clear hrow1 hrow2 hg1 hg2 hkr
      go_upto_region 9 with (fail)
      refine wp_region_later (by kernel_rfl) (by kernel_rfl) ?_
      repeat (go_big_quiet_step ((go_at_call 42; exact M1.out _)))
      refine wpQuiet_nil ?_
      intro wq hw'
      obtain ⟨p, hp⟩ := hw'
      have HQ := Lib.hid (show Below w7.heap.size w7 wq from below_then HB.out (hp ▸ p.h) HB.out.size)
      clear L1 L2 M1 hp p
      go_wp2
      go_roundw
      case rel => exact ⟨k + 1, by omega, by go_num, HQ.out⟩
      case measure => simp [intOf]; omega
    · go_wp2
      go_ret
      exact ⟨rfl, HBW.out⟩
end
end Go.Proofs.Ytenadnmglhghiaa.Ar
