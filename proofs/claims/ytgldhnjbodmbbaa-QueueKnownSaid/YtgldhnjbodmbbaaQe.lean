/- slices.Clone of rows of ints, of int64s, of bools; slices.Equal of rows of bools. Conditions: the memory, at most four million elements. -/
import Derived.Test.YtgldhnjbodmbbaaQd
import Derived.Lib.SliceRun
namespace Go.Proofs.Ytgldhnjbodmbbaa.Qu
open Go.RowKit Go.Proofs.Ytgldhnjbodmbbaa.Mem Go.Proofs.Ytgldhnjbodmbbaa.Sl Go.Shelf
open Go.Proofs.Ytgldhnjbodmbbaa.FnL (enc_at below_then)
set_option linter.unusedVariables false

def CloneR (w : World) (t : TypeId) (n : Nat) (xs : List Value) (e : Ending) (w' : World) : Prop := ∃ A c', e = .returned (.slice A n c') ∧ App.Own w' w.heap.size t A n c' xs
theorem clone_int {w : World} (a : Option Addr) (n c : Nat) (xs : List Value) (hn : n = xs.length) (hr : RdV w a xs) (h1 : ∀ u ∈ xs, u.oneCell' = true) (hmn : n ≤ 4000000) :
    Calls Try.prog 24 #[.slice a n c] w fun e w' => CloneR w 3 n xs e w' ∧ Below w.heap.size w w' := by
  rcases a with _ | ad
  · have hl : xs = [] := by
      rcases xs with _ | ⟨y, ys⟩
      · rfl
      · obtain ⟨b, off, e, _⟩ := hr (by simp)
        cases e
    subst hl
    have hn0 : n = 0 := hn
    clear hn hr hmn h1
    subst hn0
    have HF := Lib.hid (show CloneR w 3 0 [] (.returned (.slice none 0 0)) w from ⟨none, 0, rfl, App.Own.nil _ _ _⟩)
    have he1 := fun (W : World) (A : Option Addr) (n c : Nat) => Lib.run_eql_slice_nil (P := Try.prog) W 29 3 A n c 0 0 Try.underlying29
    go_enter Try.func24, Try.ntmps24
    go_wp2
    go_ret
    exact ⟨HF.out, Below.refl _ _⟩
  · obtain ⟨i0, hi⟩ := Option.isSome_iff_exists.1 (show (Try.prog.info? 3).isSome = true by kernel_rfl)
    have hz : (Try.prog.info? 3).map (fun i => (i.zero, i.size, i.bytes)) = some (some (.int .i64 0), 1, 8) := by kernel_rfl
    rw [hi] at hz
    injection hz with hz
    injection hz with hz0 hz
    injection hz with hz1 hz2
    have he1 := fun (W : World) (A : Option Addr) (n c : Nat) => Lib.run_eql_slice_nil (P := Try.prog) W 29 3 A n c 0 0 Try.underlying29
    have HR := Lib.hid hr
    have HN := Lib.hid hn
    have H1 := Lib.hid h1
    clear hr hn h1
    go_enter Try.func24, Try.ntmps24
    have HW := Lib.hid (show Below w.heap.size w (w.alloc (.cells #[] 3)) from (Below.refl _ _).alloc (Nat.le_refl _) _)
    have HOW := Lib.hid fun (v' : Value) (w2 : World) (hown : w2.ownsRow w.heap.size 3 1 v' (0 + n) ([] ++ xs)) => App.Own.of (by rwa [Nat.zero_add, List.nil_append] at hown)
    go_wp2_with (at_builtin; refine App.wpList_app rfl _ _ 29 rfl w.heap.size 3 i0 (.int .i64 0) 8 Try.underlying29 hi hz0 hz1 hz2 rfl (.slice (some ⟨w.heap.size, 0, none⟩) 0 0) 0 [] rfl ((Row.new w 3 []).own (Nat.le_refl _) (by decide) rfl) (some ad) n c xs rfl HN.out (HR.out.below HW.out) (fun h => by cases h) H1.out (by unfold maxLen; omega) (by omega) (by simp) ?_; intro v' w2 hown hgrow; obtain ⟨A, c', rfl, hO⟩ := HOW.out v' w2 hown; have HO := Lib.hid (show CloneR w 3 n xs (.returned (.slice A n c')) w2 from ⟨A, c', rfl, hO⟩); have HB := Lib.hid (show Below w.heap.size w w2 from HW.out.trans ((Mod.grown hgrow).below (fun i _ e => by cases e; exact Nat.le_refl _) (by simp))); clear hown hgrow hO)
    go_ret
    exact ⟨HO.out, HB.out⟩
theorem clone_i64 {w : World} (a : Option Addr) (n c : Nat) (xs : List Value) (hn : n = xs.length) (hr : RdV w a xs) (h1 : ∀ u ∈ xs, u.oneCell' = true) (hmn : n ≤ 4000000) :
    Calls Try.prog 31 #[.slice a n c] w fun e w' => CloneR w 2 n xs e w' ∧ Below w.heap.size w w' := by
  rcases a with _ | ad
  · have hl : xs = [] := by
      rcases xs with _ | ⟨y, ys⟩
      · rfl
      · obtain ⟨b, off, e, _⟩ := hr (by simp)
        cases e
    subst hl
    have hn0 : n = 0 := hn
    clear hn hr hmn h1
    subst hn0
    have HF := Lib.hid (show CloneR w 2 0 [] (.returned (.slice none 0 0)) w from ⟨none, 0, rfl, App.Own.nil _ _ _⟩)
    have he1 := fun (W : World) (A : Option Addr) (n c : Nat) => Lib.run_eql_slice_nil (P := Try.prog) W 51 2 A n c 0 0 Try.underlying51
    go_enter Try.func31, Try.ntmps31
    go_wp2
    go_ret
    exact ⟨HF.out, Below.refl _ _⟩
  · obtain ⟨i0, hi⟩ := Option.isSome_iff_exists.1 (show (Try.prog.info? 2).isSome = true by kernel_rfl)
    have hz : (Try.prog.info? 2).map (fun i => (i.zero, i.size, i.bytes)) = some (some (.int .i64 0), 1, 8) := by kernel_rfl
    rw [hi] at hz
    injection hz with hz
    injection hz with hz0 hz
    injection hz with hz1 hz2
    have he1 := fun (W : World) (A : Option Addr) (n c : Nat) => Lib.run_eql_slice_nil (P := Try.prog) W 51 2 A n c 0 0 Try.underlying51
    have HR := Lib.hid hr
    have HN := Lib.hid hn
    have H1 := Lib.hid h1
    clear hr hn h1
    go_enter Try.func31, Try.ntmps31
    have HW := Lib.hid (show Below w.heap.size w (w.alloc (.cells #[] 2)) from (Below.refl _ _).alloc (Nat.le_refl _) _)
    have HOW := Lib.hid fun (v' : Value) (w2 : World) (hown : w2.ownsRow w.heap.size 2 1 v' (0 + n) ([] ++ xs)) => App.Own.of (by rwa [Nat.zero_add, List.nil_append] at hown)
    go_wp2_with (at_builtin; refine App.wpList_app rfl _ _ 51 rfl w.heap.size 2 i0 (.int .i64 0) 8 Try.underlying51 hi hz0 hz1 hz2 rfl (.slice (some ⟨w.heap.size, 0, none⟩) 0 0) 0 [] rfl ((Row.new w 2 []).own (Nat.le_refl _) (by decide) rfl) (some ad) n c xs rfl HN.out (HR.out.below HW.out) (fun h => by cases h) H1.out (by unfold maxLen; omega) (by omega) (by simp) ?_; intro v' w2 hown hgrow; obtain ⟨A, c', rfl, hO⟩ := HOW.out v' w2 hown; have HO := Lib.hid (show CloneR w 2 n xs (.returned (.slice A n c')) w2 from ⟨A, c', rfl, hO⟩); have HB := Lib.hid (show Below w.heap.size w w2 from HW.out.trans ((Mod.grown hgrow).below (fun i _ e => by cases e; exact Nat.le_refl _) (by simp))); clear hown hgrow hO)
    go_ret
    exact ⟨HO.out, HB.out⟩
theorem clone_bool {w : World} (a : Option Addr) (n c : Nat) (xs : List Value) (hn : n = xs.length) (hr : RdV w a xs) (h1 : ∀ u ∈ xs, u.oneCell' = true) (hmn : n ≤ 4000000) :
    Calls Try.prog 30 #[.slice a n c] w fun e w' => CloneR w 4 n xs e w' ∧ Below w.heap.size w w' := by
  rcases a with _ | ad
  · have hl : xs = [] := by
      rcases xs with _ | ⟨y, ys⟩
      · rfl
      · obtain ⟨b, off, e, _⟩ := hr (by simp)
        cases e
    subst hl
    have hn0 : n = 0 := hn
    clear hn hr hmn h1
    subst hn0
    have HF := Lib.hid (show CloneR w 4 0 [] (.returned (.slice none 0 0)) w from ⟨none, 0, rfl, App.Own.nil _ _ _⟩)
    have he1 := fun (W : World) (A : Option Addr) (n c : Nat) => Lib.run_eql_slice_nil (P := Try.prog) W 31 4 A n c 0 0 Try.underlying31
    go_enter Try.func30, Try.ntmps30
    go_wp2
    go_ret
    exact ⟨HF.out, Below.refl _ _⟩
  · obtain ⟨i0, hi⟩ := Option.isSome_iff_exists.1 (show (Try.prog.info? 4).isSome = true by kernel_rfl)
    have hz : (Try.prog.info? 4).map (fun i => (i.zero, i.size, i.bytes)) = some (some (.bool false), 1, 1) := by kernel_rfl
    rw [hi] at hz
    injection hz with hz
    injection hz with hz0 hz
    injection hz with hz1 hz2
    have he1 := fun (W : World) (A : Option Addr) (n c : Nat) => Lib.run_eql_slice_nil (P := Try.prog) W 31 4 A n c 0 0 Try.underlying31
    have HR := Lib.hid hr
    have HN := Lib.hid hn
    have H1 := Lib.hid h1
    clear hr hn h1
    go_enter Try.func30, Try.ntmps30
    have HW := Lib.hid (show Below w.heap.size w (w.alloc (.cells #[] 4)) from (Below.refl _ _).alloc (Nat.le_refl _) _)
    have HOW := Lib.hid fun (v' : Value) (w2 : World) (hown : w2.ownsRow w.heap.size 4 1 v' (0 + n) ([] ++ xs)) => App.Own.of (by rwa [Nat.zero_add, List.nil_append] at hown)
    go_wp2_with (at_builtin; refine App.wpList_app rfl _ _ 31 rfl w.heap.size 4 i0 (.bool false) 1 Try.underlying31 hi hz0 hz1 hz2 rfl (.slice (some ⟨w.heap.size, 0, none⟩) 0 0) 0 [] rfl ((Row.new w 4 []).own (Nat.le_refl _) (by decide) rfl) (some ad) n c xs rfl HN.out (HR.out.below HW.out) (fun h => by cases h) H1.out (by unfold maxLen; omega) (by omega) (by simp) ?_; intro v' w2 hown hgrow; obtain ⟨A, c', rfl, hO⟩ := HOW.out v' w2 hown; have HO := Lib.hid (show CloneR w 4 n xs (.returned (.slice A n c')) w2 from ⟨A, c', rfl, hO⟩); have HB := Lib.hid (show Below w.heap.size w w2 from HW.out.trans ((Mod.grown hgrow).below (fun i _ e => by cases e; exact Nat.le_refl _) (by simp))); clear hown hgrow hO)
    go_ret
    exact ⟨HO.out, HB.out⟩
theorem equal_bool {w : World} (a : Option Addr) (n c : Nat) (m : List Bool) (hl : n = m.length) (hr : RdV w a (m.map Value.bool)) (b : Option Addr) (n' c' : Nat) (m' : List Bool) (hl' : n' = m'.length) (hr' : RdV w b (m'.map Value.bool)) (hmx : n ≤ 4000000) (hmx' : n' ≤ 4000000) :
    Calls Try.prog 29 #[.slice a n c, .slice b n' c'] w fun e w' => e = .returned (.bool (m == m')) ∧ Below w.heap.size w w' := by
  have HM := Lib.hid hr
  have HM' := Lib.hid hr'
  have HL := Lib.hid hl
  have HL' := Lib.hid hl'
  clear hr hr' hl hl'
  by_cases hn : n = n'
  · subst hn
    go_enter Try.func29, Try.ntmps29
    go_wp2_with fail
    go_loopw [13] (fun i wr => ∃ k : Nat, k ≤ n ∧ i = .int .i64 k ∧ m.take k = m'.take k ∧ Below w.heap.size w wr) (fun i _ => n - (intOf i).toNat)
    case atStart => exact ⟨0, Nat.zero_le _, rfl, rfl, Below.refl _ _⟩
    case round =>
      obtain ⟨k, hk, rfl, hf, hb⟩ := hrel
      have HF := Lib.hid hf
      have HB := Lib.hid hb
      clear hf hb
      by_cases hlt : k < n
      · have hkl : k < m.length := by rw [← HL.out]; exact hlt
        have hkl' : k < m'.length := by rw [← HL'.out]; exact hlt
        obtain ⟨b1, o1, ha1, _, hc1⟩ := RdV.at_ (HM.out.below HB.out) (enc_at (enc := Value.bool) hkl)
        obtain ⟨b2, o2, ha2, _, hc2⟩ := RdV.at_ (HM'.out.below HB.out) (enc_at (enc := Value.bool) hkl')
        subst ha1 ha2
        have HT := Lib.hid (show m[k]'hkl = m'[k]'hkl' → m.take (k + 1) = m'.take (k + 1) from fun h => by rw [List.take_succ_eq_append_getElem hkl, List.take_succ_eq_append_getElem hkl', HF.out, h])
        have HNE := Lib.hid (show m[k]'hkl ≠ m'[k]'hkl' → (m == m') = false from fun h => by
          rw [beq_eq_false_iff_ne]
          rintro rfl
          exact h rfl)
        generalize m[k]'hkl = x at *
        generalize m'[k]'hkl' = y at *
        clear hkl hkl'
        by_cases hxy : x = y
        · have HE := Lib.hid (HT.out hxy)
          subst hxy
          go_wp2_with fail
          go_quiet (fail)
          go_wp2
          go_roundw
          case rel => exact ⟨k + 1, by omega, by go_num, HE.out, belowN HB.out _⟩
          case measure => simp [intOf]; omega
        · have HE := Lib.hid (HNE.out hxy)
          have hxy' : (x == y) = false := by simpa using hxy
          go_wp2_with fail
          go_quiet (fail)
          go_wp2
          go_ret
          exact ⟨by rw [HE.out]; rfl, belowN HB.out _⟩
      · have HE := Lib.hid (show (m == m') = true by
          have := HF.out
          rw [List.take_of_length_le (by rw [← HL.out]; omega), List.take_of_length_le (by rw [← HL'.out]; omega)] at this
          rw [this]; simp)
        go_wp2
        go_ret
        exact ⟨by rw [HE.out]; rfl, HB.out⟩
  · have HE := Lib.hid (show (m == m') = false by
      rw [beq_eq_false_iff_ne]
      rintro rfl
      exact hn (HL.out.trans HL'.out.symm))
    have hn' : (n : Int) ≠ n' := by omega
    go_enter Try.func29, Try.ntmps29
    go_wp2
    go_ret
    exact ⟨by rw [HE.out]; rfl, Below.refl _ _⟩
theorem same_any {w : World} (a : Option Addr) (n c : Nat) (m : List Int) (hl : n = m.length) (hr : RdV w a (LZ m)) (b : Option Addr) (n' c' : Nat) (m' : List Int) (hl' : n' = m'.length) (hr' : RdV w b (LZ m')) (hmx : n ≤ 4000000) (hmx' : n' ≤ 4000000) :
    Calls Try.prog 17 #[.slice a n c, .slice b n' c'] w fun e w' => e = .returned (.bool (m == m')) ∧ Below w.heap.size w w' := by
  have HM := Lib.hid hr
  have HM' := Lib.hid hr'
  have HL := Lib.hid hl
  have HL' := Lib.hid hl'
  clear hr hr' hl hl'
  by_cases hn : n = n'
  · subst hn
    go_enter Try.func17, Try.ntmps17
    go_wp2_with fail
    go_loopw [5] (fun i wr => ∃ k : Nat, k ≤ n ∧ i = .int .i64 k ∧ m.take k = m'.take k ∧ Below w.heap.size w wr) (fun i _ => n - (intOf i).toNat)
    case atStart => exact ⟨0, Nat.zero_le _, rfl, rfl, Below.refl _ _⟩
    case round =>
      obtain ⟨k, hk, rfl, hf, hb⟩ := hrel
      have HF := Lib.hid hf
      have HB := Lib.hid hb
      clear hf hb
      by_cases hlt : k < n
      · have hkl : k < m.length := by rw [← HL.out]; exact hlt
        have hkl' : k < m'.length := by rw [← HL'.out]; exact hlt
        obtain ⟨b1, o1, ha1, _, hc1⟩ := RdV.at_ (HM.out.below HB.out) (enc_at (enc := Value.int .i64) hkl)
        obtain ⟨b2, o2, ha2, _, hc2⟩ := RdV.at_ (HM'.out.below HB.out) (enc_at (enc := Value.int .i64) hkl')
        subst ha1 ha2
        have HT := Lib.hid (show m[k]'hkl = m'[k]'hkl' → m.take (k + 1) = m'.take (k + 1) from fun h => by rw [List.take_succ_eq_append_getElem hkl, List.take_succ_eq_append_getElem hkl', HF.out, h])
        have HNE := Lib.hid (show m[k]'hkl ≠ m'[k]'hkl' → (m == m') = false from fun h => by
          rw [beq_eq_false_iff_ne]
          rintro rfl
          exact h rfl)
        generalize m[k]'hkl = x at *
        generalize m'[k]'hkl' = y at *
        clear hkl hkl'
        by_cases hxy : x = y
        · have HE := Lib.hid (HT.out hxy)
          subst hxy
          go_wp2_with fail
          go_quiet (fail)
          go_wp2
          go_roundw
          case rel => exact ⟨k + 1, by omega, by go_num, HE.out, belowN HB.out _⟩
          case measure => simp [intOf]; omega
        · have HE := Lib.hid (HNE.out hxy)
          have hxy' : (x == y) = false := by simpa using hxy
          go_wp2_with fail
          go_quiet (fail)
          go_wp2
          go_ret
          exact ⟨by rw [HE.out]; rfl, belowN HB.out _⟩
      · have HE := Lib.hid (show (m == m') = true by
          have := HF.out
          rw [List.take_of_length_le (by rw [← HL.out]; omega), List.take_of_length_le (by rw [← HL'.out]; omega)] at this
          rw [this]; simp)
        go_wp2
        go_ret
        exact ⟨by rw [HE.out]; rfl, HB.out⟩
  · have HE := Lib.hid (show (m == m') = false by
      rw [beq_eq_false_iff_ne]
      rintro rfl
      exact hn (HL.out.trans HL'.out.symm))
    have hn' : (n : Int) ≠ n' := by omega
    go_enter Try.func17, Try.ntmps17
    go_wp2
    go_ret
    exact ⟨by rw [HE.out]; rfl, Below.refl _ _⟩
end Go.Proofs.Ytgldhnjbodmbbaa.Qu
