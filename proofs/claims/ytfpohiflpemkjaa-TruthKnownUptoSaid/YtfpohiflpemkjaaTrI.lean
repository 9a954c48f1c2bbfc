/- truth.Count: the plain count, and the walk. -/
import Derived.Test.YtfpohiflpemkjaaTrH
namespace Go.Proofs.Ytfpohiflpemkjaa.Tr
open Go.RowKit Go.Proofs.Ytfpohiflpemkjaa.Mem Go.Proofs.Ytfpohiflpemkjaa.Sl Go.Proofs.Ytfpohiflpemkjaa.Cl Go.Proofs.Ytfpohiflpemkjaa.Mo Go.Shelf
open Go.Proofs.Ytfpohiflpemkjaa.FnL (Pred enc_at below_then)
set_option linter.unusedVariables false

def countF (p : Nat → Bool) : Nat → Nat → Nat
  | 0, _ => 0
  | d + 1, k => (if p k then 1 else 0) + countF p d (k + 1)
theorem countF_succ (p : Nat → Bool) (d k : Nat) : countF p (d + 1) k = (if p k then 1 else 0) + countF p d (k + 1) := rfl
theorem firstF_succ (p : Nat → Bool) (d k : Nat) : firstF p (d + 1) k = if p k then (k : Int) else firstF p d (k + 1) := rfl
theorem countF_le (p : Nat → Bool) : ∀ (d k : Nat), countF p d k ≤ d
  | 0, _ => Nat.le_refl _
  | d + 1, k => by
    rw [countF_succ]
    have := countF_le p d (k + 1)
    split <;> omega
theorem countF_none (p : Nat → Bool) : ∀ (d k : Nat), firstF p d k = -1 → countF p d k = 0
  | 0, _, _ => rfl
  | d + 1, k, h => by
    rw [firstF_succ] at h
    rw [countF_succ]
    cases hp : p k with
    | true => rw [hp, if_pos rfl] at h; omega
    | false =>
      rw [hp] at h
      simp only [Bool.false_eq_true, if_false] at h ⊢
      rw [countF_none p d (k + 1) h]
theorem countF_some (p : Nat → Bool) : ∀ (d k j : Nat), firstF p d k = (j : Int) → k ≤ j ∧ j < k + d ∧ countF p d k = 1 + countF p (k + d - (j + 1)) (j + 1)
  | 0, _, j, h => by
    have : (-1 : Int) = j := h
    omega
  | d + 1, k, j, h => by
    rw [firstF_succ] at h
    rw [countF_succ]
    cases hp : p k with
    | true =>
      rw [hp, if_pos rfl] at h
      obtain rfl : k = j := by omega
      refine ⟨Nat.le_refl _, by omega, ?_⟩
      rw [show k + (d + 1) - (k + 1) = d by omega]
      rfl
    | false =>
      rw [hp] at h
      simp only [Bool.false_eq_true, if_false] at h ⊢
      obtain ⟨h1, h2, h3⟩ := countF_some p d (k + 1) j h
      refine ⟨by omega, by omega, ?_⟩
      rw [h3, show k + 1 + d - (j + 1) = k + (d + 1) - (j + 1) by omega]
      omega
def countS (N : Int) (cs : List CV) : Nat × Int := if takenE N cs = 0 then (countF (satB N.toNat cs) (2 ^ N.toNat) 0, 0) else (0, takenE N cs)
set_option maxRecDepth 100000 in
theorem Count_any {B : Nat} {w : World} (hB : B ≤ w.heap.size) (N : Int) (ca : Option Addr) (cn cc : Nat) (cs : List CV) (hcs : ClsOk B w ca cn cs) :
    Calls Try.prog 24 #[.agg #[.int .i64 N, .slice ca cn cc]] w fun e w' => e = .returned (.tuple #[.int .i64 (countS N cs).1, .int .i64 (countS N cs).2]) ∧ Below w.heap.size w w' := by
  have HS := Lib.hid hB
  have HCS := Lib.hid hcs
  clear hB hcs
  go_enter Try.func24, Try.ntmps24
  go_upto_region 1 with (fail)
  obtain ⟨W0, hW0⟩ : ∃ W0, W0 = w.alloc (.cells #[.int .i64 N, .slice ca cn cc] 34) := ⟨_, rfl⟩
  rw [← hW0]
  have HB0 := Lib.hid (show Below w.heap.size w W0 from hW0 ▸ ((Below.refl _ w).alloc (Nat.le_refl _) _))
  have K0 := Lib.hid (show Blk W0 w.heap.size 34 #[.int .i64 N, .slice ca cn cc] from hW0 ▸ Blk.new w _ _)
  clear hW0
  have q1 : W0.cell? ⟨w.heap.size, 0, none⟩ = some (.int .i64 N) := K0.out.cell 0
  have q2 : W0.cell? ⟨w.heap.size, 1, none⟩ = some (.slice ca cn cc) := K0.out.cell 1
  have HC := Lib.hid (take_any (Nat.le_trans HS.out HB0.out.size) N ca cn cc cs (HCS.out.below (HB0.out.mono HS.out)))
  go_wp2_with fail
  refine HC.out.mono ?_
  rintro e w1 ⟨hT, hb1⟩
  have HB1 := Lib.hid (below_then HB0.out hb1 HB0.out.size)
  clear hb1 q1 q2 HC
  rcases hT with ⟨hne, rfl⟩ | ⟨h0, V, A, n, c, hV, hV16, rfl, hms⟩
  · have HE := Lib.hid (show countS N cs = (0, takenE N cs) from if_neg hne)
    have hne' : (takenE N cs == 0) = false := by simpa using hne
    clear hne
    generalize takenE N cs = er at *
    go_wp2
    go_ret2
    exact ⟨by rw [HE.out]; rfl, (HB1.out.alloc HB1.out.size _)⟩
  · subst hV
    have HL := Lib.hid (taken_ok h0).2.2.2.2
    obtain ⟨p, hp⟩ : ∃ p, p = satB V cs := ⟨_, rfl⟩
    obtain ⟨M, hM⟩ : ∃ M, M = 2 ^ V := ⟨_, rfl⟩
    have HE := Lib.hid (show countS (V : Int) cs = (countF p M 0, 0) by rw [hp, hM]; exact if_pos h0)
    have HMS := Lib.hid hms
    have HP := Lib.hid hp
    have hM16 : M ≤ 65536 := hM ▸ Nat.le_trans (Nat.pow_le_pow_right (by decide) hV16) (by decide)
    have HM := Lib.hid hM
    clear hms h0 hp hM
    obtain ⟨W1, hW1⟩ : ∃ W1, W1 = w1.alloc (.cells #[.int .i64 V, .slice A n c] 73) := ⟨_, rfl⟩
    have HBX := Lib.hid (show Below w1.heap.size w1 W1 from hW1 ▸ ((Below.refl _ w1).alloc (Nat.le_refl _) _))
    have HFI := Lib.hid fun (w2 : World) (hb : Below w1.heap.size w1 w2) (j : Nat) (hj : j ≤ M) => (show Calls Try.prog 45 #[frV V A n c, .int .i64 j, .func (.func 46) #[frV V A n c] #[]] w2 fun e w' => e = .returned (.int .i64 (firstF p (M - j) j)) ∧ Below w2.heap.size w2 w' by
      rw [HP.out, HM.out]
      exact first_any V hV16 A n c j (HM.out ▸ hj) 46 #[frV V A n c] #[] (satB V cs) (want_holds (w := w2) hb.size V hV16 A n c cs (HMS.out.below hb) HL.out))
    have HCL := Lib.hid (countF_le p M 0)
    unfold frV at HFI ⊢
    go_upto_region 4 with (fail)
    rw [← hW1]
    have KT := Lib.hid (show Blk W1 w1.heap.size 73 #[.int .i64 V, .slice A n c] from hW1 ▸ Blk.new w1 _ _)
    have HW1 := Lib.hid (show W1.heap.size = w1.heap.size + 1 by rw [hW1]; simp)
    clear hW1
    have t0 : W1.cell? ⟨w1.heap.size, 0, none⟩ = some (.int .i64 V) := KT.out.cell 0
    have t1 : W1.cell? ⟨w1.heap.size, 1, none⟩ = some (.slice A n c) := KT.out.cell 1
    have HC := Lib.hid (HFI.out W1 HBX.out 0 (Nat.zero_le _))
    go_wp2_with fail
    refine HC.out.mono ?_
    rintro e w2 ⟨rfl, hb2⟩
    have HB2 := Lib.hid (below_then HBX.out hb2 HBX.out.size)
    have HKT2 := Lib.hid (KT.out.below hb2)
    clear hb2 t0 t1 HC
    go_wp2_with fail
    go_loopw [6, 7] (fun nn f wr => ∃ (j x : Nat) (F : Int), j ≤ M ∧ nn = .int .i64 x ∧ f = .int .i64 F ∧ F = firstF p (M - j) j ∧ x + countF p (M - j) j = countF p M 0 ∧ Blk wr w1.heap.size 73 #[.int .i64 V, .slice A n c] ∧ Below w1.heap.size w1 wr) (fun nn _ _ => M - (intOf nn).toNat)
    case atStart => exact ⟨0, 0, _, Nat.zero_le _, rfl, rfl, rfl, Nat.zero_add _, HKT2.out, HB2.out⟩
    case round =>
      obtain ⟨j, x, F, hj, rfl, rfl, hFF, hx, hk, hb⟩ := hrel
      have HX := Lib.hid hx
      have HK := Lib.hid hk
      have HB := Lib.hid hb
      clear hx hk hb
      rcases firstF_cases p (M - j) j with ⟨h1, _⟩ | ⟨q, h1, _, _, _, _⟩
      · have HF := Lib.hid (show countF p M 0 = x by rw [← HX.out, countF_none p _ _ h1]; rfl)
        rw [h1] at hFF
        subst hFF
        clear h1
        go_wp2
        go_ret2
        exact ⟨by rw [HE.out]; show Ending.returned (.tuple #[.int .i64 x, .int .i64 0]) = .returned (.tuple #[.int .i64 ((countF p M 0 : Nat) : Int), .int .i64 0]); rw [HF.out], below_then HB1.out HB.out HB1.out.size⟩
      · have HF := Lib.hid (countF_some p _ _ _ h1)
        rw [h1] at hFF
        subst hFF
        clear h1
        have hq : q < M := by have := HF.out.2.1; omega
        have HTOT := Lib.hid (show x + 1 + countF p (M - (q + 1)) (q + 1) = countF p M 0 by rw [← HX.out, HF.out.2.2, show j + (M - j) - (q + 1) = M - (q + 1) by omega]; omega)
        have hx2 : x < M := by have := HTOT.out; have := HCL.out; omega
        have t0 : wr.cell? ⟨w1.heap.size, 0, none⟩ = some (.int .i64 V) := HK.out.cell 0
        have t1 : wr.cell? ⟨w1.heap.size, 1, none⟩ = some (.slice A n c) := HK.out.cell 1
        have HC := Lib.hid (HFI.out wr HB.out (q + 1) (by omega))
        go_wp2_with fail
        refine HC.out.mono ?_
        rintro e w3 ⟨rfl, hb3⟩
        have HB3 := Lib.hid (below_then HB.out hb3 HB.out.size)
        have HK3 := Lib.hid (HK.out.below hb3)
        clear hb3 t0 t1 HC
        go_wp2
        go_roundw
        case rel => exact ⟨q + 1, x + 1, _, by omega, by go_num, rfl, rfl, HTOT.out, HK3.out, HB3.out⟩
        case measure => simp [intOf]; omega
end Go.Proofs.Ytfpohiflpemkjaa.Tr
