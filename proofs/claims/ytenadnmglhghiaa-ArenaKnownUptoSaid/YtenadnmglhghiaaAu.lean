/- The document's arena: New, small, find, Refs, Words. Conditions: the memory. -/
import Derived.Test.YtenadnmglhghiaaAk
import Derived.Test.YtenadnmglhghiaaAs
namespace Go.Proofs.Ytenadnmglhghiaa.Ar
open Go.RowKit Go.Proofs.Ytenadnmglhghiaa.Mem Go.Proofs.Ytenadnmglhghiaa.Sl Go.Shelf
open Go.Proofs.Ytenadnmglhghiaa.FnL (enc_at below_then)
set_option linter.unusedVariables false

set_option maxRecDepth 100000 in
theorem rnew_any (lim : Int) (hl : inI lim) (w : World) : Calls Try.prog 20 #[.int .i64 lim] w fun e w' => ∃ gd, e = .returned (.pointer (some ⟨gd, 0, none⟩)) ∧ RX w' w.heap.size (fun i => i = gd) gd (limI lim) [] ∧ w.heap.size ≤ gd ∧ Below w.heap.size w w' := by
  obtain ⟨W, hW⟩ : ∃ W, W = w.alloc (.cells #[.int .i64 (limI lim), .slice none 0 0, .int .i64 0] 78) := ⟨_, rfl⟩
  have HF := Lib.hid (show RX W w.heap.size (fun i => i = w.heap.size) w.heap.size (limI lim) [] ∧ w.heap.size ≤ w.heap.size ∧ Below w.heap.size w W from by
    rw [hW]
    refine ⟨⟨none, 0, [], rfl, ⟨Blk.new _ _ _, IRow.nil _ _, fun p hp => (by cases hp), fun x hx => (by cases hx), ?_, ?_, rfl, fun i e => (by cases e), fun p hp => (by cases hp), fun i e => Nat.le_of_eq e.symm, fun i e => by simp [e]⟩⟩, Nat.le_refl _, (Below.refl _ w).alloc (Nat.le_refl _) _⟩
    · unfold limI; split <;> (try split) <;> omega
    · show ((0 : Nat) : Int) ≤ _
      unfold limI; split <;> (try split) <;> omega)
  have HW := Lib.hid hW
  by_cases h1 : lim < 0
  · have HL := Lib.hid (show limI lim = 0 from if_pos h1)
    go_enter Try.func20, Try.ntmps20
    go_wp2
    go_ret
    refine ⟨w.heap.size, rfl, ?_⟩
    rw [HL.out]
    have := HF.out
    rw [HW.out, HL.out] at this
    exact this
  by_cases h2 : 268435456 < lim
  · have HL := Lib.hid (show limI lim = 268435456 from (if_neg h1).trans (if_pos h2))
    go_enter Try.func20, Try.ntmps20
    go_wp2
    go_ret
    refine ⟨w.heap.size, rfl, ?_⟩
    rw [HL.out]
    have := HF.out
    rw [HW.out, HL.out] at this
    exact this
  have HL := Lib.hid (show limI lim = lim from (if_neg h1).trans (if_neg h2))
  go_enter Try.func20, Try.ntmps20
  go_wp2
  go_ret
  refine ⟨w.heap.size, rfl, ?_⟩
  rw [HL.out]
  have := HF.out
  rw [HW.out, HL.out] at this
  exact this
def smallB (n : Int) : Bool := decide (0 ≤ n ∧ n ≤ 65535)
theorem small_any (n : Int) (w : World) : Calls Try.prog 48 #[.int .i64 n] w fun e w' => e = .returned (.bool (smallB n)) ∧ w = w' := by
  by_cases h1 : 0 ≤ n
  · by_cases h2 : n ≤ 65535
    · have HE := Lib.hid (show smallB n = true from decide_eq_true ⟨h1, h2⟩)
      go_enter Try.func48, Try.ntmps48
      go_wp2
      go_ret
      exact ⟨by rw [HE.out]; rfl, rfl⟩
    · have HE := Lib.hid (show smallB n = false from decide_eq_false fun h => h2 h.2)
      go_enter Try.func48, Try.ntmps48
      go_wp2
      go_ret
      exact ⟨by rw [HE.out]; rfl, rfl⟩
  · have HE := Lib.hid (show smallB n = false from decide_eq_false fun h => h1 h.1)
    go_enter Try.func48, Try.ntmps48
    go_wp2
    go_ret
    exact ⟨by rw [HE.out]; rfl, rfl⟩
section
variable {w : World} {base gd c : Nat} {S : Nat → Prop} {A : Option Addr} {lim : Int} {z : List (Itm × LAd)}
def fI : Option Nat → Int
  | none => -1
  | some i => (i : Int)
theorem zlen_le (h : RA w base S gd A c lim z) : z.length ≤ 268435456 := by
  have h1 := len_le h.ok
  rw [itm_len] at h1
  have := h.l0; have := h.l1
  omega
theorem find_any (h : RA w base S gd A c lim z) (r : Int) : Calls Try.prog 47 #[.pointer (some ⟨gd, 0, none⟩), .int .i64 r] w fun e w' => e = .returned (.int .i64 (fI (fnd (itm z) r))) ∧ w = w' := by
  have H := Lib.hid h
  have c1 : w.cell? ⟨gd, 1, none⟩ = some (.slice A z.length c) := h.blk.cell 1
  have hzl := zlen_le h
  have HYES := Lib.hid (fun k (hk : k < z.length) (h1 : (sumw ((itm z).take k) : Int) = r) (h2 : z[k].1.dead = false) => show fI (fnd (itm z) r) = k from by
    have hk' : k < (itm z).length := by rw [itm_len]; exact hk
    have := fnd_of h.ok hk' (by rw [itm_at hk]; exact h2)
    rw [← h1, this]; rfl)
  have HNO := Lib.hid (fun (hn : ∀ k (hk : k < z.length), ¬ ((sumw ((itm z).take k) : Int) = r ∧ z[k].1.dead = false)) => show fI (fnd (itm z) r) = -1 from by
    rcases hf : fnd (itm z) r with _ | i
    · rfl
    · obtain ⟨hi, e, d⟩ := fnd_some hf
      rw [itm_len] at hi
      rw [itm_at hi] at d
      exact absurd ⟨e, d⟩ (hn i hi))
  clear h
  go_enter Try.func47, Try.ntmps47
  go_wp2_with fail
  go_loopw [5] (fun i wr => ∃ k : Nat, k ≤ z.length ∧ i = .int .i64 k ∧ (∀ j (hj : j < z.length), j < k → ¬ ((sumw ((itm z).take j) : Int) = r ∧ z[j].1.dead = false)) ∧ w = wr) (fun i _ => z.length - (intOf i).toNat)
  case atStart => exact ⟨0, Nat.zero_le _, rfl, fun j _ hj => by omega, rfl⟩
  case round =>
    obtain ⟨k, hk, rfl, hn, rfl⟩ := hrel
    have HN := Lib.hid hn
    clear hn
    by_cases hlt : k < z.length
    · obtain ⟨a, eA, _, hcl, _⟩ := H.out.cells hlt
      have d0 : w.cell? ⟨a, k * 8, none⟩ = some (.int .i64 (sumw ((itm z).take k) : Nat)) := hcl 0 _ (by omega) rfl
      have d7 : w.cell? ⟨a, k * 8 + 7, none⟩ = some (.bool z[k].1.dead) := hcl 7 _ (by omega) rfl
      have HY := Lib.hid (HYES.out k hlt)
      have HNX := Lib.hid (fun (hx : ¬ ((sumw ((itm z).take k) : Int) = r ∧ z[k].1.dead = false)) => show ∀ j (hj : j < z.length), j < k + 1 → ¬ ((sumw ((itm z).take j) : Int) = r ∧ z[j].1.dead = false) from fun j hj hjk => by
        by_cases e : j = k
        · subst e; exact hx
        · exact HN.out j hj (by omega))
      generalize ((sumw ((itm z).take k) : Nat) : Int) = s at *
      generalize z[k].1.dead = d at *
      subst eA
      clear hcl
      by_cases h1 : s = r
      · rcases d with _ | _
        · have HE := Lib.hid (HY.out h1 rfl)
          have h1b : (s == r) = true := by simpa using h1
          clear h1 HY HNX
          go_wp2
          go_ret
          exact ⟨by rw [HE.out]; rfl, rfl⟩
        · have HE := Lib.hid (HNX.out (fun h => by cases h.2))
          have h1b : (s == r) = true := by simpa using h1
          clear h1 HY HNX
          go_wp2
          go_roundw
          case rel => exact ⟨k + 1, by omega, by go_num, HE.out, trivial⟩
          case measure => simp [intOf]; omega
      · have HE := Lib.hid (HNX.out (fun h => h1 h.1))
        have h1b : (s == r) = false := by simpa using h1
        clear h1 HY HNX
        go_wp2
        go_roundw
        case rel => exact ⟨k + 1, by omega, by go_num, HE.out, trivial⟩
        case measure => simp [intOf]; omega
    · have HE := Lib.hid (HNO.out (fun j hj => HN.out j hj (by omega)))
      go_wp2
      go_ret
      exact ⟨by rw [HE.out]; rfl, rfl⟩
def RRefsR (w : World) (ks : List Nat) (e : Ending) (w' : World) : Prop := ∃ A c, e = .returned (.slice A ks.length c) ∧ App.Own w' w.heap.size 3 A ks.length c (IZ (NZ ks))
theorem rrefs_any (h : RA w base S gd A c lim z) : Calls Try.prog 34 #[.pointer (some ⟨gd, 0, none⟩)] w fun e w' => RRefsR w (refs (itm z)) e w' ∧ Below w.heap.size w w' := by
  have H := Lib.hid h
  have hzl := zlen_le h
  clear h
  go_enter Try.func34, Try.ntmps34
  go_wp2_with fail
  go_loopw [3, 4] (fun l i wr => ∃ (k : Nat) (A' : Option Addr) (c' : Nat), k ≤ z.length ∧ i = .int .i64 k ∧ l = .slice A' (refs ((itm z).take k)).length c' ∧ App.Own wr w.heap.size 3 A' (refs ((itm z).take k)).length c' (IZ (NZ (refs ((itm z).take k)))) ∧ Below w.heap.size w wr) (fun _ i _ => z.length - (intOf i).toNat)
  case atStart => exact ⟨0, none, 0, Nat.zero_le _, rfl, rfl, App.Own.nil _ _ _, Below.refl _ _⟩
  case round =>
    obtain ⟨k, A', c', hk, rfl, rfl, hO, hb⟩ := hrel
    have HO := Lib.hid hO
    have HB := Lib.hid hb
    have HA := Lib.hid (H.out.below hb)
    clear hO hb
    have c1 : wr.cell? ⟨gd, 1, none⟩ = some (.slice A z.length c) := HA.out.blk.cell 1
    by_cases hlt : k < z.length
    · obtain ⟨a, eA, _, hcl, _⟩ := HA.out.cells hlt
      have d0 : wr.cell? ⟨a, k * 8, none⟩ = some (.int .i64 (sumw ((itm z).take k) : Nat)) := hcl 0 _ (by omega) rfl
      have d7 : wr.cell? ⟨a, k * 8 + 7, none⟩ = some (.bool z[k].1.dead) := hcl 7 _ (by omega) rfl
      have hk' : k < (itm z).length := by rw [itm_len]; exact hlt
      have HNX := Lib.hid (show refs ((itm z).take (k + 1)) = refs ((itm z).take k) ++ (if z[k].1.dead then [] else [sumw ((itm z).take k)]) from by
        rw [List.take_succ_eq_append_getElem hk', refs_snoc, itm_at hlt])
      generalize sumw ((itm z).take k) = s at *
      generalize z[k].1.dead = d at *
      have hrl : (refs ((itm z).take k)).length ≤ k := by
        rw [← keep_len]
        unfold keep
        rw [List.length_map]
        exact Nat.le_trans (List.length_filter_le _ _) (by rw [List.length_take]; omega)
      generalize refs ((itm z).take k) = rf at *
      obtain ⟨n, hn⟩ : ∃ n, rf.length = n := ⟨_, rfl⟩
      have HNN := Lib.hid hn
      rw [hn] at HO hrl ⊢
      clear hn hcl hk'
      subst eA
      rcases d with _ | _
      · have HE := Lib.hid (show refs ((itm z).take (k + 1)) = rf ++ [s] from HNX.out)
        have k1 : n + 1 ≤ 400000000 := by omega
        go_wp2_with (at_builtin; refine wpAppI rfl _ _ rfl w.heap.size A' n c' (NZ rf) rfl (HO.out.alloc _) (some ⟨wr.heap.size, 0, none⟩) 1 1 [((s : Nat) : Int)] rfl rfl (new_rd wr (IZ [((s : Nat) : Int)]) _) (fun h => by cases h) k1 (by simp; have := HB.out.size; omega) (n + 1) rfl ?_; intro A3 c3 w3 hO3 hm3; have HO3 := Lib.hid hO3; have HB3 := Lib.hid (HB.out.trans (below_alloc_mod HB.out.size (Own.base_le HO.out) hm3)); clear hO3 hm3)
        go_roundw
        case rel => exact ⟨k + 1, A3, c3, by omega, by go_num, by rw [HE.out, List.length_append, HNN.out]; rfl, by rw [HE.out, List.length_append, HNN.out, ← NZ_snoc]; exact HO3.out, HB3.out⟩
        case measure => simp [intOf]; omega
      · have HE := Lib.hid (show refs ((itm z).take (k + 1)) = rf from by rw [HNX.out]; simp)
        go_wp2
        go_roundw
        case rel => exact ⟨k + 1, A', c', by omega, by go_num, by rw [HE.out, HNN.out], by rw [HE.out, HNN.out]; exact HO.out, HB.out⟩
        case measure => simp [intOf]; omega
    · have HE := Lib.hid (show (itm z).take k = itm z from List.take_of_length_le (by rw [itm_len]; omega))
      have HFn := Lib.hid (show RRefsR w (refs (itm z)) (.returned (.slice A' (refs ((itm z).take k)).length c')) wr from ⟨A', c', by rw [HE.out], by have := HO.out; rwa [HE.out] at this⟩)
      generalize (refs ((itm z).take k)).length = n at *
      go_wp2
      go_ret
      exact ⟨HFn.out, HB.out⟩
end
end Go.Proofs.Ytenadnmglhghiaa.Ar
