/- cnf.Value and the document's Value at any clause and model. -/
import Derived.Test.YtbgfijnadfeleaaCl
namespace Go.Proofs.Ytbgfijnadfeleaa.Cl
open Go.RowKit Go.Proofs.Ytbgfijnadfeleaa.Mem Go.Proofs.Ytbgfijnadfeleaa.Sl Go.Shelf
open Go.Proofs.Ytbgfijnadfeleaa.FnL (Pred enc_at below_then)
set_option linter.unusedVariables false

theorem val1_any {B : Nat} {a : Option Addr} {n c g1 g2 : Nat} {m : List Bool} {w : World} (hm : MdOk B w a n m) (x : Int) (h0 : -2147483648 ≤ x) (h1 : x ≤ 2147483647)
    (c1 : w.cell? ⟨g1, 0, none⟩ = some (.func (.func 30) #[] #[])) (c2 : w.cell? ⟨g2, 0, none⟩ = some (.slice a n c)) :
    Calls Try.prog 32 #[.int .i32 x, .pointer (some ⟨g1, 0, none⟩), .pointer (some ⟨g2, 0, none⟩)] w fun e w' => e = .returned (.bool (isB m x)) ∧ w = w' := by
  have HC := Lib.hid (is_any (c := c) hm x h0 h1)
  have eg := enters_of Try.func30 (by kernel_rfl) rfl
  clear hm
  go_enter Try.func32, Try.ntmps32
  go_wp2_with fail
  refine HC.out.mono ?_
  rintro e w1 ⟨rfl, rfl⟩
  go_wp2
  go_ret
  exact ⟨rfl, rfl⟩
theorem Value_any {B : Nat} {a : Option Addr} {n c : Nat} {m : List Bool} {w : World} (hB : B ≤ w.heap.size) (hm : MdOk B w a n m) (x : CV) (hx : ClOk B w x) :
    Calls Try.prog 11 #[x.v, .slice a n c] w fun e w' => e = .returned (.bool (valB m x.l)) ∧ Below w.heap.size w w' := by
  have HM := Lib.hid hm
  have HX := Lib.hid hx
  have HS := Lib.hid hB
  have HV := Lib.hid (show x.v = .slice x.A x.n x.c from rfl)
  clear hm hx hB
  rw [HV.out]
  go_enter Try.func11, Try.ntmps11
  go_upto_region 2 with (fail)
  obtain ⟨W, hW⟩ : ∃ W, W = (w.alloc (.cells #[.slice a n c] 25)).alloc (.cells #[.func (.func 30) #[] #[]] 49) := ⟨_, rfl⟩
  rw [← hW]
  have HB := Lib.hid (show Below w.heap.size w W from hW ▸ ((Below.refl _ w).alloc (Nat.le_refl _) _).alloc (by simp) _)
  have hs : W.heap.size = w.heap.size + 2 := by rw [hW]; simp
  have k1 : W.cell? ⟨w.heap.size + 1, 0, none⟩ = some (.func (.func 30) #[] #[]) := by
    rw [hW]; simp
  have k2 : W.cell? ⟨w.heap.size, 0, none⟩ = some (.slice a n c) := by
    rw [hW]; simp
  have HC := Lib.hid (FnL.containsFunc_any (Value.int .i32) x.A x.c 32 #[.pointer (some ⟨w.heap.size + 1, 0, none⟩), .pointer (some ⟨w.heap.size, 0, none⟩)] (isB m) x.l x.n HX.out.ln HX.out.mx W
    ((HX.out.below (HB.out.mono HS.out)).rd.rd (by have := HS.out; omega))
    ⟨enters_of Try.func32 (by kernel_rfl) rfl, fun y hy W2 hb2 => (val1_any (c := c) ((HM.out.below (HB.out.mono HS.out)).below (hb2.mono (by have := HS.out; omega))) y (HX.out.lb y hy).1 (HX.out.lb y hy).2
      ((hb2.cell (p := ⟨w.heap.size + 1, 0, none⟩) (by show w.heap.size + 1 < _; omega)).trans k1) ((hb2.cell (p := ⟨w.heap.size, 0, none⟩) (by show w.heap.size < _; omega)).trans k2)).mono fun e w' ⟨he, hw⟩ => ⟨he, hw ▸ Below.refl _ _⟩⟩)
  clear k1 k2 hs hW
  go_wp2_with fail
  refine HC.out.mono ?_
  rintro e w1 ⟨rfl, hb1⟩
  have HB1 := Lib.hid (below_then HB.out hb1 HB.out.size)
  clear hb1
  go_wp2
  go_ret
  exact ⟨rfl, HB1.out⟩
theorem rValue_any {B : Nat} {a : Option Addr} {n c : Nat} {m : List Bool} {w : World} (hB : B ≤ w.heap.size) (hm : MdOk B w a n m) (x : CV) (hx : ClOk B w x) :
    Calls Try.prog 12 #[x.v, .slice a n c] w fun e w' => e = .returned (.bool (valB m x.l)) ∧ Below w.heap.size w w' := by
  obtain ⟨A, N, C, l⟩ := x
  have HM := Lib.hid hm
  have HX := Lib.hid hx
  have HL := Lib.hid (show N = l.length from hx.ln)
  have HS := Lib.hid hB
  have hmx := hx.mx
  dsimp only at hmx
  clear hm hx hB
  dsimp only [CV.v]
  go_enter Try.func12, Try.ntmps12
  go_wp2_with fail
  go_loopw [5] (fun i wr => ∃ k : Nat, k ≤ N ∧ i = .int .i64 k ∧ (l.take k).any (isB m) = false ∧ Below w.heap.size w wr) (fun i _ => N - (intOf i).toNat)
  case atStart => exact ⟨0, Nat.zero_le _, rfl, rfl, Below.refl _ _⟩
  case round =>
    obtain ⟨k, hk, rfl, hf, hb⟩ := hrel
    have HF := Lib.hid hf
    have HB := Lib.hid hb
    clear hf hb
    by_cases hlt : k < N
    · have hkl : k < l.length := by rw [← HL.out]; exact hlt
      obtain ⟨b, off, ha, hbl, hc⟩ := RdV.at_ ((HX.out.below (HB.out.mono HS.out)).rd.rd (Nat.le_trans HS.out HB.out.size)) (enc_at (enc := Value.int .i32) hkl)
      dsimp only at ha
      subst ha
      have HT := Lib.hid (show (l.take (k + 1)).any (isB m) = isB m (l[k]'hkl) by rw [List.take_succ_eq_append_getElem hkl, List.any_append, HF.out]; simp)
      have HM2 := Lib.hid (show l[k]'hkl ∈ l from List.getElem_mem hkl)
      have HC := Lib.hid (rTrue_any (c := c) (HM.out.below (HB.out.mono HS.out)) (l[k]'hkl) (HX.out.lb _ HM2.out).1 (HX.out.lb _ HM2.out).2)
      have HA := Lib.hid (show isB m (l[k]'hkl) = true → valB m l = true from fun h => List.any_eq_true.2 ⟨_, HM2.out, h⟩)
      generalize l[k]'hkl = y at *
      clear hkl hbl
      go_wp2_with fail
      refine HC.out.mono ?_
      rintro e w1 ⟨rfl, rfl⟩
      cases hy : isB m y with
      | true =>
        have HE := Lib.hid (HA.out hy)
        clear hy
        go_wp2
        go_ret
        exact ⟨by rw [HE.out]; rfl, HB.out⟩
      | false =>
        have HE := Lib.hid (HT.out.trans hy)
        clear hy
        go_wp2
        go_roundw
        case rel => exact ⟨k + 1, by omega, by go_num, HE.out, HB.out⟩
        case measure => simp [intOf]; omega
    · have HE := Lib.hid (show valB m l = false by
        have := HF.out
        rwa [List.take_of_length_le (by rw [← HL.out]; omega)] at this)
      go_wp2
      go_ret
      exact ⟨by rw [HE.out]; rfl, HB.out⟩
end Go.Proofs.Ytbgfijnadfeleaa.Cl
