/- The statement's large: how much a row of calls is. Condition: the memory. -/
import Derived.Test.YtgldhnjbodmbbaaQw
namespace Go.Proofs.Ytgldhnjbodmbbaa.Qu
open Go.RowKit Go.Proofs.Ytgldhnjbodmbbaa.Mem Go.Proofs.Ytgldhnjbodmbbaa.Sl Go.Shelf
open Go.Proofs.Ytgldhnjbodmbbaa.FnL (enc_at below_then)
open Go.Proofs.Ytgldhnjbodmbbaa.OpQ (OQ Ops)
set_option linter.unusedVariables false

/-- The count of large, till it has more than 4000. -/
def cnt (ops : List OQ) (k : Nat) : Nat := (ops.take k).foldl (fun s o => s + min o.n 5000 + min o.k 5000) 0
theorem cnt_succ (ops : List OQ) (k : Nat) (h : k < ops.length) (o : OQ) (ho : ops[k]? = some o) : cnt ops (k + 1) = cnt ops k + min o.n 5000 + min o.k 5000 := by
  unfold cnt
  rw [List.take_succ_eq_append_getElem h, List.foldl_append]
  have : ops[k] = o := by rw [List.getElem?_eq_getElem h] at ho; exact Option.some.inj ho
  simp [this]
theorem cnt_mono (ops : List OQ) {a b : Nat} (h : a ≤ b) : cnt ops a ≤ cnt ops b := by
  induction b with
  | zero => rw [show a = 0 by omega]; exact Nat.le_refl _
  | succ n ih =>
    rcases Nat.lt_or_ge a (n + 1) with hl | hg
    · have h1 := ih (by omega)
      rcases Nat.lt_or_ge n ops.length with hn | hn
      · rw [cnt_succ ops n hn ops[n] (by simp [hn])]; omega
      · refine Nat.le_trans h1 ?_
        unfold cnt
        rw [List.take_of_length_le hn, List.take_of_length_le (by omega)]
        exact Nat.le_refl _
    · rw [show a = n + 1 by omega]; exact Nat.le_refl _
/-- What large lets by. -/
structure Fit (n : Int) (ops : List OQ) : Prop where
  n : n ≤ 100 ∨ 1048576 < n
  len : ops.length ≤ 100
  each : ∀ (i : Nat) o, ops[i]? = some o → o.n ≤ 4000 ∧ o.k ≤ 4000
theorem fit_of {n : Int} {ops : List OQ} (h1 : n ≤ 100 ∨ 1048576 < n) (h2 : ops.length ≤ 100) (h3 : cnt ops ops.length ≤ 4000) : Fit n ops :=
  ⟨h1, h2, fun i o ho => by
    have hi : i < ops.length := (List.getElem?_eq_some_iff.1 ho).1
    have a := cnt_succ ops i hi o ho
    have b := cnt_mono ops (show i + 1 ≤ ops.length by omega)
    omega⟩
def LargeP (n : Int) (ops : List OQ) (e : Ending) : Prop := ∃ b, e = .returned (.bool b) ∧ (b = false → Fit n ops)
set_option maxRecDepth 100000 in
set_option maxHeartbeats 4000000 in
theorem large_any (n : Int) (a : Option Addr) (len cap : Nat) (ops : List OQ) (w : World) (hl : ops.length = len) (hm : len ≤ 9223372036854775807) (hn0 : -9223372036854775808 ≤ n) (hn1 : n ≤ 9223372036854775807) (ho : Ops w.heap.size w a ops) :
    Calls Try.prog 8 #[.int .i64 n, .slice a len cap] w fun e w' => LargeP n ops e ∧ Below w.heap.size w w' := by
  have HL := Lib.hid hl
  have HO := Lib.hid ho
  clear hl ho
  go_enter Try.func8, Try.ntmps8
  go_wp2_with fail
  go_loopw [5, 6] (fun x i wr => ∃ (k z : Nat), k ≤ len ∧ i = .int .i64 k ∧ x = .int .i64 (cnt ops k) ∧ (∀ j, j < k → cnt ops j ≤ 4000) ∧ cnt ops k ≤ 14000 ∧ wr = w.drewN z) (fun _ i _ => len - (intOf i).toNat)
  case atStart => exact ⟨0, 0, Nat.zero_le _, rfl, rfl, fun j hj => by omega, by simp [cnt], rfl⟩
  case round =>
    obtain ⟨k, z, hk, rfl, rfl, hkj, hk9, hwz⟩ := hrel
    have HJ := Lib.hid hkj
    have HWZ := Lib.hid hwz
    have HBZ := Lib.hid (show Below w.heap.size w wr from hwz ▸ belowN (Below.refl _ _) z)
    clear hkj hwz
    by_cases hlt : k < len
    · by_cases h4 : cnt ops k ≤ 4000
      · have hkl : k < ops.length := by rw [HL.out]; exact hlt
        obtain ⟨b, off, rfl, hb, hc⟩ := (HO.out.below HBZ.out) (by omega)
        have hok := hc k _ (List.getElem?_eq_getElem hkl)
        have HC := Lib.hid (cnt_succ ops k hkl _ (List.getElem?_eq_getElem hkl))
        have c1 := hok.s1
        have c2 := hok.s2
        have hm1 := hok.m1
        have hm2 := hok.m2
        generalize ops[k] = o at *
        clear hok hc hkl
        have H4 := Lib.hid h4
        generalize hq : cnt ops k = q at *
        have HQ := Lib.hid hq
        clear hq
        by_cases h5 : (5000 : Int) < o.n
        · by_cases h6 : (5000 : Int) < o.k
          · skip
            have e5 : cnt ops (k + 1) = q + 5000 + 5000 := by rw [HC.out]; omega
            have HE := Lib.hid e5
            have s1 : IntKind.i64.wrap ((q : Int) + 5000) = (q : Int) + 5000 := IntWalk.i64_in _ (by omega)
            have s2 : IntKind.i64.wrap ((q : Int) + 5000 + 5000) = (q : Int) + 5000 + 5000 := IntWalk.i64_in _ (by omega)
            have HK := Lib.hid (show ((cnt ops (k + 1) : Nat) : Int) = (q : Int) + 5000 + 5000 by rw [e5]; omega)
            have H9 := Lib.hid (show cnt ops (k + 1) ≤ 14000 by omega)
            clear e5
            go_wp2_with fail
            go_quiet (fail)
            clear s1 s2
            go_wp2
            refine ⟨⟨k + 1, z + nq, by omega, by go_num, by rw [HK.out], fun j hj => ?_, H9.out, by rw [← drewN_add, ← HWZ.out]⟩, by simp [intOf]; omega⟩
            rcases Nat.lt_or_ge j k with hj' | hj'
            · exact HJ.out j hj'
            · rw [show j = k by omega, HQ.out]; exact H4.out
          · skip
            have e5 : cnt ops (k + 1) = q + 5000 + o.k := by rw [HC.out]; omega
            have HE := Lib.hid e5
            have s1 : IntKind.i64.wrap ((q : Int) + 5000) = (q : Int) + 5000 := IntWalk.i64_in _ (by omega)
            have s2 : IntKind.i64.wrap ((q : Int) + 5000 + (o.k : Int)) = (q : Int) + 5000 + (o.k : Int) := IntWalk.i64_in _ (by omega)
            have HK := Lib.hid (show ((cnt ops (k + 1) : Nat) : Int) = (q : Int) + 5000 + (o.k : Int) by rw [e5]; omega)
            have H9 := Lib.hid (show cnt ops (k + 1) ≤ 14000 by omega)
            clear e5
            go_wp2_with fail
            go_quiet (fail)
            clear s1 s2
            go_wp2
            refine ⟨⟨k + 1, z + nq, by omega, by go_num, by rw [HK.out], fun j hj => ?_, H9.out, by rw [← drewN_add, ← HWZ.out]⟩, by simp [intOf]; omega⟩
            rcases Nat.lt_or_ge j k with hj' | hj'
            · exact HJ.out j hj'
            · rw [show j = k by omega, HQ.out]; exact H4.out
        · by_cases h6 : (5000 : Int) < o.k
          · skip
            have e5 : cnt ops (k + 1) = q + o.n + 5000 := by rw [HC.out]; omega
            have HE := Lib.hid e5
            have s1 : IntKind.i64.wrap ((q : Int) + (o.n : Int)) = (q : Int) + (o.n : Int) := IntWalk.i64_in _ (by omega)
            have s2 : IntKind.i64.wrap ((q : Int) + (o.n : Int) + 5000) = (q : Int) + (o.n : Int) + 5000 := IntWalk.i64_in _ (by omega)
            have HK := Lib.hid (show ((cnt ops (k + 1) : Nat) : Int) = (q : Int) + (o.n : Int) + 5000 by rw [e5]; omega)
            have H9 := Lib.hid (show cnt ops (k + 1) ≤ 14000 by omega)
            clear e5
            go_wp2_with fail
            go_quiet (fail)
            clear s1 s2
            go_wp2
            refine ⟨⟨k + 1, z + nq, by omega, by go_num, by rw [HK.out], fun j hj => ?_, H9.out, by rw [← drewN_add, ← HWZ.out]⟩, by simp [intOf]; omega⟩
            rcases Nat.lt_or_ge j k with hj' | hj'
            · exact HJ.out j hj'
            · rw [show j = k by omega, HQ.out]; exact H4.out
          · skip
            have e5 : cnt ops (k + 1) = q + o.n + o.k := by rw [HC.out]; omega
            have HE := Lib.hid e5
            have s1 : IntKind.i64.wrap ((q : Int) + (o.n : Int)) = (q : Int) + (o.n : Int) := IntWalk.i64_in _ (by omega)
            have s2 : IntKind.i64.wrap ((q : Int) + (o.n : Int) + (o.k : Int)) = (q : Int) + (o.n : Int) + (o.k : Int) := IntWalk.i64_in _ (by omega)
            have HK := Lib.hid (show ((cnt ops (k + 1) : Nat) : Int) = (q : Int) + (o.n : Int) + (o.k : Int) by rw [e5]; omega)
            have H9 := Lib.hid (show cnt ops (k + 1) ≤ 14000 by omega)
            clear e5
            go_wp2_with fail
            go_quiet (fail)
            clear s1 s2
            go_wp2
            refine ⟨⟨k + 1, z + nq, by omega, by go_num, by rw [HK.out], fun j hj => ?_, H9.out, by rw [← drewN_add, ← HWZ.out]⟩, by simp [intOf]; omega⟩
            rcases Nat.lt_or_ge j k with hj' | hj'
            · exact HJ.out j hj'
            · rw [show j = k by omega, HQ.out]; exact H4.out
      · have H4 := Lib.hid h4
        clear HJ HO
        generalize cnt ops k = q at *
        by_cases g1 : 100 < n <;> by_cases g2 : n ≤ 1048576 <;> by_cases g3 : (100 : Int) < len <;> (go_wp2 <;> (go_ret; exact ⟨⟨_, rfl, fun h => by first | cases h | (revert h; simp; omega)⟩, HBZ.out⟩))
    · have HC := Lib.hid (show k = ops.length by rw [HL.out]; omega)
      have HF := Lib.hid (@fit_of n ops)
      generalize hq : cnt ops k = q at *
      have HQ := Lib.hid hq
      clear hq HJ HO
      have hkl : k = len := by omega
      subst hkl
      by_cases g1 : 100 < n <;> by_cases g2 : n ≤ 1048576 <;> by_cases g3 : (100 : Int) < k <;> by_cases g4 : q ≤ 4000 <;> (go_wp2 <;> (go_ret; exact ⟨⟨_, rfl, fun h => by
        first
        | cases h
        | (exact HF.out (by omega) (by rw [HL.out]; omega) (by rw [← HC.out, HQ.out]; exact g4))
        | (revert h; simp; omega)⟩, HBZ.out⟩))
end Go.Proofs.Ytgldhnjbodmbbaa.Qu
