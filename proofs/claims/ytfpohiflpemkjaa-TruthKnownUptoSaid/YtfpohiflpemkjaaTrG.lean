/- truth.first at any predicate. -/
import Derived.Test.YtfpohiflpemkjaaTrK
namespace Go.Proofs.Ytfpohiflpemkjaa.Tr
open Go.RowKit Go.Proofs.Ytfpohiflpemkjaa.Mem Go.Proofs.Ytfpohiflpemkjaa.Sl Go.Proofs.Ytfpohiflpemkjaa.Cl Go.Proofs.Ytfpohiflpemkjaa.Mo Go.Shelf
open Go.Proofs.Ytfpohiflpemkjaa.FnL (Pred enc_at below_then)
set_option linter.unusedVariables false

def firstF (p : Nat → Bool) : Nat → Nat → Int
  | 0, _ => -1
  | d + 1, k => if p k then k else firstF p d (k + 1)
theorem firstF_step (p : Nat → Bool) (d k : Nat) (hd : 0 < d) : firstF p d k = if p k then (k : Int) else firstF p (d - 1) (k + 1) := by
  cases d with
  | zero => omega
  | succ d => rfl
/-- What a wanted-predicate is asked, where pre stands ahead and lb behind its argument. -/
def Want (f : Nat) (pre lb : Array Value) (p : Nat → Bool) (B : Nat) (w : World) : Prop :=
  Enters Try.prog f ∧ ∀ k, k < B → ∀ W, Below w.heap.size w W → Calls Try.prog f (pre.push (.int .u32 k) ++ lb) W fun e w' => e = .returned (.bool (p k)) ∧ Below W.heap.size W w'
theorem first_any {w : World} (N : Nat) (hN : N ≤ 16) (A : Option Addr) (n c : Nat) (from_ : Nat) (hf : from_ ≤ 2 ^ N) (f : Nat) (pre lb : Array Value) (p : Nat → Bool) (hp : Want f pre lb p (2 ^ N) w) :
    Calls Try.prog 45 #[frV N A n c, .int .i64 from_, .func (.func f) pre lb] w fun e w' => e = .returned (.int .i64 (firstF p (2 ^ N - from_) from_)) ∧ Below w.heap.size w w' := by
  have HP := Lib.hid hp
  clear hp
  have h2 : 2 ^ N ≤ 65536 := Nat.le_trans (Nat.pow_le_pow_right (by decide) hN) (by decide)
  obtain ⟨M, hM⟩ : ∃ M, M = 2 ^ N := ⟨_, rfl⟩
  rw [← hM] at hf h2 HP ⊢
  have HM := Lib.hid hM
  clear hM
  unfold frV
  have hsh : wrap64 ((2 : Int) ^ N) = (M : Int) := by
    rw [show ((2 : Int) ^ N) = (M : Int) by rw [HM.out]; simp]
    unfold wrap64; omega
  go_enter Try.func45, Try.ntmps45
  go_upto_region 1 with (fail)
  obtain ⟨W0, hW0⟩ : ∃ W0, W0 = w.alloc (.cells #[.int .i64 N, .slice A n c] 73) := ⟨_, rfl⟩
  rw [← hW0]
  have HB0 := Lib.hid (show Below w.heap.size w W0 from hW0 ▸ ((Below.refl _ w).alloc (Nat.le_refl _) _))
  have K0 := Lib.hid (show Blk W0 w.heap.size 73 #[.int .i64 N, .slice A n c] from hW0 ▸ Blk.new w _ _)
  have HW0 := Lib.hid (show W0.heap.size = w.heap.size + 1 by rw [hW0]; simp)
  clear hW0
  go_wp2_with fail
  go_loopw [7] (fun i wr => ∃ k : Nat, k ≤ M ∧ i = .int .i64 k ∧ firstF p (M - from_) from_ = firstF p (M - k) k ∧ Below W0.heap.size W0 wr) (fun i _ => M - (intOf i).toNat)
  case atStart => exact ⟨from_, hf, rfl, rfl, Below.refl _ _⟩
  case round =>
    obtain ⟨k, hk, rfl, hfe, hb⟩ := hrel
    have HF := Lib.hid hfe
    have HB := Lib.hid hb
    have HBW := Lib.hid (below_then HB0.out hb HB0.out.size)
    have q0 : wr.cell? ⟨w.heap.size, 0, none⟩ = some (.int .i64 N) := (K0.out.below hb).cell 0
    clear hfe hb
    by_cases hlt : k < M
    · have HS := Lib.hid (HF.out.trans (firstF_step p (M - k) k (by omega)))
      have eg : ∀ args w, (callFunc f args).run Try.prog w = .ok (.enter f args) w := HP.out.1
      have HC := Lib.hid (HP.out.2 k hlt wr HBW.out)
      have HMK := Lib.hid (show M - k - 1 = M - (k + 1) by omega)
      have e1 : IntKind.u32.wrap (k : Int) = (k : Int) := by rw [IntKind.wrap_u32]; omega
      go_wp2_with fail
      refine HC.out.mono ?_
      rintro e w1 ⟨rfl, hb1⟩
      have HB1 := Lib.hid (below_then HB.out hb1 HB.out.size)
      have HBW1 := Lib.hid (below_then HBW.out hb1 HBW.out.size)
      clear hb1
      cases hpk : p k with
      | true =>
        have HE := Lib.hid (HS.out.trans (if_pos hpk))
        clear hpk
        go_wp2
        go_ret
        exact ⟨by rw [HE.out]; rfl, HBW1.out⟩
      | false =>
        have HE := Lib.hid (HS.out.trans (if_neg (by rw [hpk]; decide)))
        clear hpk
        go_wp2
        go_roundw
        case rel => exact ⟨k + 1, by omega, by go_num, by rw [← HMK.out]; exact HE.out, HB1.out⟩
        case measure => simp [intOf]; omega
    · have HE := Lib.hid (HF.out.trans (show firstF p (M - k) k = -1 by rw [show M - k = 0 by omega]; rfl))
      go_wp2
      go_ret
      exact ⟨by rw [HE.out]; rfl, HBW.out⟩
end Go.Proofs.Ytfpohiflpemkjaa.Tr
