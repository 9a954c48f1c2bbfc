/- The statement's bumped: a queue behind the Bumps of a row of calls. Condition: the memory. -/
import Derived.Test.YtgldhnjbodmbbaaQy
namespace Go.Proofs.Ytgldhnjbodmbbaa.Qu
open Go.RowKit Go.Proofs.Ytgldhnjbodmbbaa.Mem Go.Proofs.Ytgldhnjbodmbbaa.Sl Go.Shelf
open Go.Proofs.Ytgldhnjbodmbbaa.FnL (enc_at below_then)
open Go.Proofs.Ytgldhnjbodmbbaa.OpQ (OQ Ops Pure)
set_option linter.unusedVariables false

def bumpS (m : QM) (o : OQ) : QM := if o.kind % 6 < 3 then bumpM m o.l else m
def bumpedM (N : Nat) (ops : List OQ) (k : Nat) : QM := (ops.take k).foldl bumpS (newQ N)
theorem bumpedM_succ {N : Nat} {ops : List OQ} {k : Nat} (h : k < ops.length) : bumpedM N ops (k + 1) = bumpS (bumpedM N ops k) ops[k] := by
  unfold bumpedM
  rw [List.take_succ_eq_append_getElem h, List.foldl_append]; rfl
theorem bumpedM_moved (N : Nat) (ops : List OQ) (k : Nat) : (bumpedM N ops k).moved ≤ k := by
  induction k with
  | zero => exact Int.le_refl _
  | succ k ih =>
    by_cases h : k < ops.length
    · rw [bumpedM_succ h]
      unfold bumpS
      split
      · have := bumpM_moved (bumpedM N ops k) ops[k].l; omega
      · omega
    · have : bumpedM N ops (k + 1) = bumpedM N ops k := by
        unfold bumpedM
        rw [List.take_of_length_le (by omega), List.take_of_length_le (by omega)]
      rw [this]; omega
theorem bumpM_N (m : QM) (l : List Int) : (bumpM m l).N = m.N := by
  unfold bumpM
  split
  · rfl
  · split <;> rfl
theorem bumpedM_N (N : Nat) (ops : List OQ) (k : Nat) : (bumpedM N ops k).N = N := by
  induction k with
  | zero => rfl
  | succ k ih =>
    by_cases h : k < ops.length
    · rw [bumpedM_succ h]
      unfold bumpS
      split
      · rw [bumpM_N]; exact ih
      · exact ih
    · have : bumpedM N ops (k + 1) = bumpedM N ops k := by
        unfold bumpedM
        rw [List.take_of_length_le (by omega), List.take_of_length_le (by omega)]
      rw [this]; exact ih
def BumpedR (w : World) (N : Nat) (ops : List OQ) (e : Ending) (w' : World) : Prop := ∃ q, e = .returned (.pointer (some ⟨q.g, 0, none⟩)) ∧ QL w' w.heap.size q (bumpedM N ops ops.length) ∧ Below w.heap.size w w'
theorem bumped_bad (n : Int) (h : n < 0 ∨ 1048576 < n) (a : Option Addr) (len cap : Nat) (w : World) : Calls Try.prog 15 #[.int .i64 n, .slice a len cap] w fun e w' => e = .returned (.pointer none) ∧ w = w' := by
  have HN := Lib.hid (fun W => new_bad n h W)
  clear h
  go_enter Try.func15, Try.ntmps15
  go_wp2_with fail
  refine (HN.out _).mono ?_
  rintro e w2 ⟨rfl, rfl⟩
  go_wp2_with fail
  go_loopw [7] (fun i wr => i = .int .i64 0 ∧ w = wr) (fun _ _ => 0)
  case atStart => exact ⟨rfl, rfl⟩
  case round =>
    obtain ⟨rfl, rfl⟩ := hrel
    by_cases hz : len = 0
    · subst hz
      go_wp2
      go_ret
      exact ⟨rfl, rfl⟩
    · have h0 : (0 : Int) < (len : Int) := by omega
      go_wp2
      go_ret
      exact ⟨rfl, rfl⟩
set_option maxHeartbeats 4000000 in
theorem bumped_ok (N : Nat) (hN : N ≤ 1048576) (a : Option Addr) (len cap : Nat) (ops : List OQ) (B0 : Nat) (w : World) (hB0 : B0 ≤ w.heap.size) (hl : ops.length = len) (hlen : len ≤ 100) (ho : Ops B0 w a ops) (hpu : ∀ o, o ∈ ops → Pure o) (he : ∀ (i : Nat) o, ops[i]? = some o → o.n ≤ 4000 ∧ o.k ≤ 4000) :
    Calls Try.prog 15 #[.int .i64 N, .slice a len cap] w (BumpedR w N ops) := by
  have HL := Lib.hid hl
  have HO := Lib.hid ho
  have HPU := Lib.hid hpu
  have HE := Lib.hid he
  have HZ := Lib.hid hB0
  have HN := Lib.hid (qnew_ok N hN w)
  clear hl ho hpu he hB0 hN
  go_enter Try.func15, Try.ntmps15
  go_wp2_with fail
  refine HN.out.mono ?_
  rintro e w1 ⟨q, rfl, hq, hb⟩
  have HQ := Lib.hid hq
  have HB := Lib.hid hb
  clear hq hb HN
  go_wp2_with fail
  go_loopw [7] (fun i wr => ∃ k : Nat, k ≤ len ∧ i = .int .i64 k ∧ QL wr w.heap.size q (bumpedM N ops k) ∧ Below w.heap.size w wr) (fun i _ => len - (intOf i).toNat)
  case atStart => exact ⟨0, Nat.zero_le _, rfl, HQ.out, HB.out⟩
  case round =>
    clear HQ HB
    obtain ⟨k, hk, rfl, hq, hb⟩ := hrel
    have HQ := Lib.hid hq
    have HB := Lib.hid hb
    clear hq hb
    by_cases hlt : k < len
    · have hkl : k < ops.length := by rw [HL.out]; exact hlt
      have HB0 := Lib.hid (HB.out.mono HZ.out)
      obtain ⟨b, off, ha, hob, hoc⟩ := (HO.out.below HB0.out) (by omega)
      subst ha
      have hok := hoc k _ (List.getElem?_eq_getElem hkl)
      have h4 := HE.out k _ (List.getElem?_eq_getElem hkl)
      have hpu := HPU.out _ (List.getElem_mem hkl)
      have HS := Lib.hid (bumpedM_succ (N := N) hkl)
      have HMV := Lib.hid (bumpedM_moved N ops k)
      generalize ops[k] = x at *
      have c0 := hok.k
      have c1 := hok.s1
      have HTM := Lib.hid (show x.kind.tmod 6 = x.kind % 6 from Int.tmod_eq_emod_of_nonneg hok.k0)
      have HBU := Lib.hid (qbump_ok HQ.out (by have := HMV.out; omega) x.A x.n x.c x.l hok.n1 (hok.r1.rd (Nat.le_trans HZ.out HB.out.size)) (fun y hy => hpu.li y hy) (by omega))
      clear hok hoc hob hkl h4 hpu
      by_cases hr : x.kind % 6 < 3
      · have ht : x.kind.tmod 6 < 3 := by rw [HTM.out]; exact hr
        have HX := Lib.hid (HS.out.trans (if_pos hr))
        clear hr
        go_wp2_with fail
        refine HBU.out.mono ?_
        rintro e w3 ⟨rfl, hq, hm⟩
        have HQ3 := Lib.hid (show QL w3 w.heap.size q (bumpedM N ops (k + 1)) from by rw [HX.out]; exact hq)
        have HB3 := Lib.hid (HQ.out.mq_below HB.out hm)
        clear hq hm HBU c0 c1 ht
        go_wp2
        go_roundw
        case rel => exact ⟨k + 1, by omega, by go_num, HQ3.out, HB3.out⟩
        case measure => simp [intOf]; omega
      · have ht : ¬ x.kind.tmod 6 < 3 := by rw [HTM.out]; exact hr
        have HX := Lib.hid (HS.out.trans (if_neg hr))
        have HQ3 := Lib.hid (show QL wr w.heap.size q (bumpedM N ops (k + 1)) from by rw [HX.out]; exact HQ.out)
        clear hr HBU c1
        go_wp2
        go_roundw
        case rel => exact ⟨k + 1, by omega, by go_num, HQ3.out, HB.out⟩
        case measure => simp [intOf]; omega
    · have HF := Lib.hid (show BumpedR w N ops (.returned (.pointer (some ⟨q.g, 0, none⟩))) wr from ⟨q, rfl, by have := HQ.out; rwa [show k = ops.length by rw [HL.out]; omega] at this, HB.out⟩)
      go_wp2
      go_ret
      exact HF.out
end Go.Proofs.Ytgldhnjbodmbbaa.Qu
