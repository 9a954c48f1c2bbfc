/- The document's store (threshingref14) in memory; the walks of Draw, is, may, of, Kind. -/
import Derived.Test.YtcmicmghnmklnaaPhQ
namespace Go.Proofs.Ytcmicmghnmklnaa.Ph
open Go.RowKit Go.Proofs.Ytcmicmghnmklnaa.Mem Go.Proofs.Ytcmicmghnmklnaa.Sl Go.Shelf
set_option linter.unusedVariables false

theorem rdraw_walk (g X : Nat) (hX : X < 18446744073709551616) (w : World) (hc : w.cell? ⟨g, 6, none⟩ = some (.int .u64 X)) (hf : w.frozen? ⟨g, 6, none⟩ = false) :
    Calls Try.prog 39 #[.pointer (some ⟨g, 0, none⟩)] w fun e w' => e = .returned (.int .u64 (nextN X : Nat)) ∧ w' = w.setCell ⟨g, 6, none⟩ (.int .u64 (nextN X : Nat)) := by
  obtain ⟨A, hA⟩ : ∃ A : Nat, A = X ^^^ (X * 8192 % 18446744073709551616) := ⟨_, rfl⟩
  obtain ⟨B, hB⟩ : ∃ B : Nat, B = A ^^^ (A / 128) := ⟨_, rfl⟩
  obtain ⟨C, hC⟩ : ∃ C : Nat, C = B ^^^ (B * 131072 % 18446744073709551616) := ⟨_, rfl⟩
  have lA : A < 18446744073709551616 := by rw [hA]; exact Nat.xor_lt_two_pow (n := 64) (by omega) (by omega)
  have lB : B < 18446744073709551616 := by rw [hB]; exact Nat.xor_lt_two_pow (n := 64) (by omega) (by omega)
  have e1 : bits .xor .u64 (X : Int) (IntKind.u64.wrap ((X : Int) * 8192)) = (A : Int) := by
    rw [IntKind.wrap_u64, show ((X : Int) * 8192 % 18446744073709551616) = ((X * 8192 % 18446744073709551616 : Nat) : Int) by omega, bits_xor_u64_nat _ _ hX (by omega), hA]
  have e2 : bits .xor .u64 (A : Int) ((A : Int) / 128) = (B : Int) := by
    rw [show ((A : Int) / 128) = ((A / 128 : Nat) : Int) by omega, bits_xor_u64_nat _ _ lA (by omega), hB]
  have e3 : bits .xor .u64 (B : Int) (IntKind.u64.wrap ((B : Int) * 131072)) = (C : Int) := by
    rw [IntKind.wrap_u64, show ((B : Int) * 131072 % 18446744073709551616) = ((B * 131072 % 18446744073709551616 : Nat) : Int) by omega, bits_xor_u64_nat _ _ lB (by omega), hC]
  have hv : nextN X = C := by unfold nextN; simp only []; rw [← hA, ← hB, ← hC]
  rw [hv]
  clear hA hB hC hv
  go_enter Try.func39, Try.ntmps39
  go_wp2
  go_ret
  exact ⟨rfl, rfl⟩
theorem ris_any (g : Nat) (N : Nat) (A : Option Addr) (c : Nat) (v : Int) (w : World) (hc : w.cell? ⟨g, 0, none⟩ = some (.slice A N c)) :
    Calls Try.prog 43 #[.pointer (some ⟨g, 0, none⟩), .int .i64 v] w fun e w' => e = .returned (.bool (decide (1 ≤ v) && decide (v ≤ N))) ∧ w = w' := by
  by_cases h : 1 ≤ v
  · go_enter Try.func43, Try.ntmps43
    go_wp2
    go_ret
    exact ⟨by rw [decide_eq_true h]; rfl, rfl⟩
  · go_enter Try.func43, Try.ntmps43
    go_wp2
    go_ret
    exact ⟨by rw [decide_eq_false (Int.not_le.2 h)]; rfl, rfl⟩
theorem mayB_take {N : Nat} {l : List Int} (h : ∀ k, k < l.length → out N (l.getD k 0) = false) : mayB N l = true := by
  unfold mayB
  rw [Bool.not_eq_true', List.any_eq_false]
  intro x hx
  obtain ⟨k, hk, rfl⟩ := List.getElem_of_mem hx
  have := h k hk
  simpa [List.getD_eq_getElem?_getD, hk] using this
theorem mayB_bad {N : Nat} {l : List Int} {k : Nat} (hk : k < l.length) (h : out N (l.getD k 0) = true) : mayB N l = false := by
  unfold mayB
  rw [Bool.not_eq_false', List.any_eq_true]
  exact ⟨l.getD k 0, by simp [List.getD_eq_getElem?_getD, hk], h⟩
set_option maxRecDepth 100000 in
theorem rmay_any (g N : Nat) (A : Option Addr) (c : Nat) (a : Option Addr) (cap : Nat) (l : List Int) (n : Nat) (w : World) (hN : N ≤ 1000000) (hc : w.cell? ⟨g, 0, none⟩ = some (.slice A N c)) (hn : n = l.length) (hm : n ≤ 140737488351232) (hr : RdV w a (l.map (Value.int .i32)))
    (hl : ∀ k, k < l.length → -2147483648 ≤ l.getD k 0 ∧ l.getD k 0 ≤ 2147483647) :
    Calls Try.prog 45 #[.pointer (some ⟨g, 0, none⟩), .slice a n cap] w fun e w' => e = .returned (.bool (mayB N l)) ∧ w = w' := by
  have HN := Lib.hid hn
  have HR := Lib.hid hr
  have HLL := Lib.hid hl
  have HI := Lib.hid (fun v => ris_any g N A c v w hc)
  clear hn hr hl
  go_enter Try.func45, Try.ntmps45
  go_wp2_with fail
  go_loopw [5] (fun x wr => ∃ k : Nat, k ≤ n ∧ x = .int .i64 k ∧ (∀ j, j < k → out N (l.getD j 0) = false) ∧ wr = w) (fun x _ => n - (intOf x).toNat)
  case atStart => exact ⟨0, Nat.zero_le _, rfl, fun j hj => by omega, rfl⟩
  case round =>
    obtain ⟨k, hk, rfl, hj, rfl⟩ := hrel
    have HJ := Lib.hid hj
    clear hj
    by_cases hlt : k < n
    · have hkl : k < l.length := by rw [← HN.out]; exact hlt
      obtain ⟨b, off, ha, hb, hcell⟩ := RdV.at_ HR.out (ints_at (k := .i32) hkl)
      subst ha
      obtain ⟨hx0, hx1⟩ := HLL.out k hkl
      have HKL := Lib.hid hkl
      have HE := Lib.hid (show out N (l.getD k 0) = !((decide (1 ≤ l.getD k 0) && decide (l.getD k 0 ≤ (N : Int))) || (decide (1 ≤ -(l.getD k 0)) && decide (-(l.getD k 0) ≤ (N : Int)))) by
        unfold out
        rw [Bool.eq_iff_iff]
        simp only [Bool.or_eq_true, beq_iff_eq, decide_eq_true_eq, Bool.not_eq_true', Bool.or_eq_false_iff, Bool.and_eq_false_iff, decide_eq_false_iff_not]
        omega)
      have HB := Lib.hid (fun h => @mayB_bad N l k hkl h)
      have HJ2 : Hid (out N (l.getD k 0) = false → ∀ j, j < k + 1 → out N (l.getD j 0) = false) := Lib.hid (fun h j hj => by
        rcases Nat.lt_or_ge j k with h1 | h1
        · exact HJ.out j h1
        · rw [show j = k by omega]; exact h)
      generalize l.getD k 0 = x at *
      clear hkl
      have I1 := Lib.hid (HI.out x)
      have I2 := Lib.hid (HI.out (-x))
      have hneg : IntKind.i64.wrap (-x) = -x := IntWalk.i64_in _ (by omega)
      generalize (decide (1 ≤ x) && decide (x ≤ (N : Int))) = b1 at *
      generalize (decide (1 ≤ -x) && decide (-x ≤ (N : Int))) = b2 at *
      cases b1
      · cases b2
        · go_wp2_with fail
          refine I1.out.mono ?_
          rintro e w1 ⟨rfl, rfl⟩
          go_wp2_with fail
          refine I2.out.mono ?_
          rintro e w1 ⟨rfl, rfl⟩
          go_wp2
          go_ret
          exact ⟨by rw [HB.out (by rw [HE.out]; rfl)]; rfl, rfl⟩
        · go_wp2_with fail
          refine I1.out.mono ?_
          rintro e w1 ⟨rfl, rfl⟩
          go_wp2_with fail
          refine I2.out.mono ?_
          rintro e w1 ⟨rfl, rfl⟩
          go_wp2
          go_roundw
          case rel => exact ⟨k + 1, by omega, by go_num, HJ2.out (by rw [HE.out]; rfl), trivial⟩
          case measure => simp [intOf]; omega
      · go_wp2_with fail
        refine I1.out.mono ?_
        rintro e w1 ⟨rfl, rfl⟩
        go_wp2
        go_roundw
        case rel => exact ⟨k + 1, by omega, by go_num, HJ2.out (by rw [HE.out]; rfl), trivial⟩
        case measure => simp [intOf]; omega
    · have HM := Lib.hid (show mayB N l = true from mayB_take (fun j hj => HJ.out j (by have := HN.out; omega)))
      go_wp2
      go_ret
      exact ⟨by rw [HM.out]; rfl, rfl⟩
/-- A variable's value in a row of literals: 1 true, -1 false, 0 none; the last one counts. -/
def ofI (v : Int) (l : List Int) : Int := l.foldl (fun acc x => if x = v then 1 else if x = -v then -1 else acc) 0
theorem ofI_snoc (v : Int) (l : List Int) (k : Nat) (h : k < l.length) : ofI v (l.take (k + 1)) = (if l.getD k 0 = v then 1 else if l.getD k 0 = -v then -1 else ofI v (l.take k)) := by
  unfold ofI
  rw [List.take_succ_eq_append_getElem h, List.foldl_append]
  simp [List.getD_eq_getElem?_getD, h]
set_option maxRecDepth 100000 in
theorem rof_any (rn : Int) (A : Option Addr) (n c : Nat) (l : List Int) (v : Nat) (w : World) (hv : v ≤ 1000000) (hn : n = l.length) (hm : n ≤ 140737488351232) (hr : RdV w A (l.map (Value.int .i32))) :
    Calls Try.prog 44 #[.agg #[.int .i64 rn, .slice A n c], .int .i64 v] w fun e w' => e = .returned (.tuple #[.bool (decide (0 < ofI v l)), .bool (!(ofI v l == 0))]) ∧ Below w.heap.size w w' := by
  have HN := Lib.hid hn
  have HR := Lib.hid hr
  have e1 : IntKind.i32.wrap (v : Int) = v := IntWalk.i32_in _ (by omega)
  have e2 : IntKind.i32.wrap (-(v : Int)) = -v := IntWalk.i32_in _ (by omega)
  clear hn hr
  go_enter Try.func44, Try.ntmps44
  go_upto_region 1 with (fail)
  obtain ⟨W, hW⟩ : ∃ W, W = w.alloc (.cells #[.int .i64 rn, .slice A n c] 76) := ⟨_, rfl⟩
  rw [← hW]
  have KB := Lib.hid (show Below w.heap.size w W from hW ▸ (Below.refl _ w).alloc (Nat.le_refl _) _)
  have k0 := Blk.new w 76 #[.int .i64 rn, .slice A n c]
  rw [← hW] at k0
  have c1 : W.cell? ⟨w.heap.size, 1, none⟩ = some (.slice A n c) := k0.cell 1
  have HR1 := Lib.hid (HR.out.below KB.out)
  clear hW k0
  go_wp2_with fail
  go_loopw [6] (fun x wr => ((∃ j : Nat, j < n ∧ x = .int .i64 j ∧ ofI v l = ofI v (l.take (j + 1))) ∨ (x = .int .i64 (-1) ∧ ofI v l = 0)) ∧ wr = W) (fun x _ => (intOf x + 1).toNat)
  case atStart =>
    refine ⟨?_, rfl⟩
    rcases Nat.eq_zero_or_pos n with h0 | h0
    · have : l = [] := by have := HN.out; rw [h0] at this; exact List.eq_nil_of_length_eq_zero this.symm
      refine .inr ⟨by rw [h0]; rfl, by rw [this]; rfl⟩
    · refine .inl ⟨n - 1, by omega, by congr 1; omega, by rw [List.take_of_length_le (by have := HN.out; omega)]⟩
  case round =>
    obtain ⟨hx, rfl⟩ := hrel
    rcases hx with ⟨j, hj, rfl, hof⟩ | ⟨rfl, hof⟩
    · have hkl : j < l.length := by rw [← HN.out]; exact hj
      obtain ⟨b, off, ha, hb, hcell⟩ := RdV.at_ HR1.out (ints_at (k := .i32) hkl)
      subst ha
      have HOF := Lib.hid (hof.trans (ofI_snoc v l j hkl))
      have HNX : Hid ((0 < j → ∃ j' : Nat, j' + 1 = j ∧ ofI v (l.take j) = ofI v (l.take (j' + 1))) ∧ (j = 0 → ofI v (l.take j) = 0)) :=
        Lib.hid ⟨fun h => ⟨j - 1, by omega, by rw [show j - 1 + 1 = j by omega]⟩, fun h => by rw [h]; rfl⟩
      generalize l.getD j 0 = x at *
      clear hof hkl
      by_cases hx1 : x = v
      · have t1 : (x == (v : Int)) = true := by simpa using hx1
        rw [if_pos hx1] at HOF
        clear hx1
        go_wp2
        go_ret2
        exact ⟨by rw [HOF.out]; rfl, KB.out⟩
      · have t1 : (x == (v : Int)) = false := by simpa using hx1
        rw [if_neg hx1] at HOF
        by_cases hx2 : x = -(v : Int)
        · have t2 : (x == -(v : Int)) = true := by simpa using hx2
          rw [if_pos hx2] at HOF
          clear hx1 hx2
          go_wp2
          go_ret2
          exact ⟨by rw [HOF.out]; rfl, KB.out⟩
        · have t2 : (x == -(v : Int)) = false := by simpa using hx2
          rw [if_neg hx2] at HOF
          clear hx1 hx2
          have hj9 : j ≤ 140737488351232 := by omega
          go_wp2
          go_roundw
          case rel =>
            refine ⟨?_, trivial⟩
            rcases Nat.eq_zero_or_pos j with h0 | h0
            · exact .inr ⟨by rw [h0]; rfl, HOF.out.trans (HNX.out.2 h0)⟩
            · obtain ⟨j', h1, h2⟩ := HNX.out.1 h0
              exact .inl ⟨j', by omega, by congr 1; omega, HOF.out.trans h2⟩
          case measure => simp [intOf]
    · have HOF := Lib.hid hof
      clear hof
      go_wp2
      go_ret2
      exact ⟨by rw [HOF.out]; rfl, KB.out⟩
end Go.Proofs.Ytcmicmghnmklnaa.Ph
