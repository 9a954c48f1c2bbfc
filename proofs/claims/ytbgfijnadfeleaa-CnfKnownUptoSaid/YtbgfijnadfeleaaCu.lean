/- cnf.Normal: what it answers, at any clause. Conditions: the memory, at most a million literals. -/
import Derived.Test.YtbgfijnadfeleaaCt
namespace Go.Proofs.Ytbgfijnadfeleaa.Cs
open Go.RowKit Go.Proofs.Ytbgfijnadfeleaa.Mem Go.Proofs.Ytbgfijnadfeleaa.Sl Go.Proofs.Ytbgfijnadfeleaa.Cl Go.Proofs.Ytbgfijnadfeleaa.App Go.Proofs.Ytbgfijnadfeleaa.Cm Go.Shelf
open Go.Proofs.Ytbgfijnadfeleaa.Cp (ltL normL bothL swo total sort_norm InR SS)
open Go.Proofs.Ytbgfijnadfeleaa.FnL (Pred enc_at below_then)
set_option linter.unusedVariables false

theorem Normal_any {B : Nat} {w : World} (x : CV) (hx : ClOk B w x) (hB : B ≤ w.heap.size) (hn : x.n ≤ 1000000) :
    Calls Try.prog 15 #[x.v] w fun e w' => (∃ A, e = .returned (.tuple #[.slice A (normL x.l).length (normL x.l).length, .bool (bothL x.l)]) ∧ Fro w' w.heap.size A (normL x.l).length (LI (normL x.l))) ∧ Below w.heap.size w w' := by
  obtain ⟨a0, n, c0, l⟩ := x
  have HC := Lib.hid (clone_any a0 n c0 l hx.ln (hx.rd.rd hB) hn)
  have hl : InR l := hx.lb
  have hN := hx.ln
  have hn : n ≤ 1000000 := hn
  show Calls _ _ #[.slice a0 n c0] _ _
  dsimp only at hN ⊢
  have HL := Lib.hid hl
  have HNL := Lib.hid hN
  have HAD := Lib.hid (adj_both l)
  have HIN := Lib.hid (Cp.norm_in HL.out)
  have hlen : (normL l).length ≤ 1000000 := Nat.le_trans (Cp.norm_len l) (by have := HNL.out; omega)
  clear hx hB hl hN
  generalize hd0 : normL l = d at *
  generalize hb0 : bothL l = bo at *
  generalize hm0 : d.length = m at *
  have HD := Lib.hid hd0
  have HM := Lib.hid hm0
  clear hd0 hb0 hm0
  go_enter Try.func15, Try.ntmps15
  go_wp2_with fail
  refine HC.out.mono ?_
  rintro e w1 ⟨A, c, rfl, hO, hb1⟩
  have HB1 := Lib.hid hb1
  have HS := Lib.hid (sort_any hO hn)
  have HO1 := Lib.hid hO
  clear hO hb1 HC
  go_wp2_with fail
  refine HS.out.mono ?_
  rintro e w2 ⟨rfl, hO, hm2⟩
  have HB2 := Lib.hid (show Below w.heap.size w w2 from Mem.Below.then_mod HB1.out hm2 (fun i hi h => by
    have := HO1.out.block (i := i) (by rw [h]; rfl); omega) (Nat.le_refl _))
  have hcm := compact_any HL.out hO hn
  rw [HD.out, HM.out] at hcm
  have HCM := Lib.hid hcm
  clear hcm
  have HO2 := Lib.hid hO
  clear hO hm2 HS HO1
  go_wp2_with fail
  refine HCM.out.mono ?_
  rintro e w3 ⟨rfl, hO, hm3⟩
  have HB3 := Lib.hid (show Below w.heap.size w w3 from Mem.Below.then_mod HB2.out hm3 (fun i hi h => by
    have := HO2.out.block (i := i) (by rw [h]; rfl); omega) (Nat.le_refl _))
  have HO3 := Lib.hid hO
  clear hO hm3 HCM HO2 HB1 HB2
  go_wp2_with fail
  go_loopw [5, 6, 15] (fun b z i wr => ∃ k : Nat, k ≤ m ∧ i = .int .i64 k ∧ b = .bool (adjB d k) ∧ Below w3.heap.size w3 wr) (fun _ _ i _ => m - (intOf i).toNat)
  case atStart => exact ⟨0, Nat.zero_le _, rfl, rfl, Below.refl _ _⟩
  case round =>
    obtain ⟨k, hk, rfl, rfl, hq⟩ := hrel
    have HQ := Lib.hid hq
    clear hq
    by_cases hlt : k < m
    · obtain ⟨g, rfl, hbg, hrow⟩ := HO3.out.row (by omega)
      have HROW := Lib.hid (show Row wr g 27 (LI d) c from hrow.below HQ.out)
      have hkd : k < d.length := by rw [HM.out]; exact hlt
      have c0 : wr.cell? ⟨g, k, none⟩ = some (.int .i32 (d.getD k 0)) := HROW.out.cell (ints_at hkd)
      have HAS := Lib.hid (adjB_succ d k)
      clear hrow hbg
      cases hb : adjB d k with
      | true =>
        have HE := Lib.hid (show adjB d (k + 1) = true by rw [HAS.out, hb]; rfl)
        clear hb
        go_wp2_with fail
        go_quiet (fail)
        go_wp2
        go_roundw
        case rel => exact ⟨k + 1, by omega, by go_num, by rw [HE.out], belowN HQ.out _⟩
        case measure => simp [intOf]; omega
      | false =>
        rw [hb, Bool.false_or] at HAS
        clear hb
        by_cases h0 : k = 0
        · have HE := Lib.hid (show adjB d (0 + 1) = false by have := HAS.out; rw [h0] at this; rw [this]; rfl)
          subst h0
          go_wp2_with fail
          go_quiet (fail)
          go_wp2
          go_roundw
          case rel => exact ⟨0 + 1, by omega, by go_num, by rw [HE.out], belowN HQ.out _⟩
          case measure => simp [intOf]; omega
        · have hk1 : k - 1 < d.length := by rw [HM.out]; omega
          have c1 : wr.cell? ⟨g, k - 1, none⟩ = some (.int .i32 (d.getD (k - 1) 0)) := HROW.out.cell (ints_at hk1)
          have hy := HIN.out (d.getD k 0) (by rw [List.getD_eq_getElem?_getD, List.getElem?_eq_getElem hkd]; exact List.getElem_mem hkd)
          have hz := HIN.out (d.getD (k - 1) 0) (by rw [List.getD_eq_getElem?_getD, List.getElem?_eq_getElem hk1]; exact List.getElem_mem hk1)
          rw [decide_eq_true (show 0 < k by omega), Bool.true_and] at HAS
          have e1 : IntKind.i64.wrap ((k : Int) - 1) = (k : Int) - 1 := IntWalk.i64_in _ (by omega)
          have hkn : 0 < k := by omega
          have hkq : decide (0 < k) = true := decide_eq_true hkn
          have hkp : decide ((0 : Int) < (k : Int)) = true := decide_eq_true (by omega)
          clear hkd hk1
          generalize d.getD k 0 = y at *
          generalize d.getD (k - 1) 0 = z at *
          by_cases hy0 : 0 < y
          · obtain ⟨v, e2⟩ : ∃ v, IntKind.i32.wrap (-z) = v := ⟨_, rfl⟩
            have HE := Lib.hid (show adjB d (k + 1) = decide (y = v) by
              rw [HAS.out, decide_eq_true hy0, Bool.true_and]
              rw [IntKind.wrap_i32] at e2
              congr 1
              apply propext
              omega)
            have hd : decide (0 < y) = true := decide_eq_true hy0
            clear hy hz
            go_wp2_with fail
            go_quiet (fail)
            go_wp2
            go_roundw
            case rel => exact ⟨k + 1, by omega, by go_num, by rw [HE.out]; first | rfl | simp, belowN HQ.out _⟩
            case measure => simp [intOf]; omega
          · have HE := Lib.hid (show adjB d (k + 1) = false by rw [HAS.out, decide_eq_false hy0]; rfl)
            have hd : decide (0 < y) = false := decide_eq_false hy0
            clear hy hz
            go_wp2_with fail
            go_quiet (fail)
            go_wp2
            go_roundw
            case rel => exact ⟨k + 1, by omega, by go_num, by rw [HE.out], belowN HQ.out _⟩
            case measure => simp [intOf]; omega
    · have HKM := Lib.hid (show k = m by omega)
      have HO4 := Lib.hid (show Own wr w.heap.size 27 A m c (LI d) from HO3.out.below HQ.out)
      have HCL := Lib.hid (clip_any _ _ _ _ _ _ _ HO4.out)
      have HBW := Lib.hid (show Below w.heap.size w wr from below_then HB3.out HQ.out HB3.out.size)
      clear HO3
      go_wp2_with fail
      refine HCL.out.mono ?_
      rintro e w4 ⟨rfl, hw⟩
      have HW := Lib.hid hw
      clear hw
      go_wp2
      go_ret2
      refine ⟨⟨A, by rw [← HAD.out, ← HKM.out]; rfl, ?_⟩, by rw [HW.out]; exact HBW.out⟩
      rw [HW.out]
      have h1 := Fro.of HO4.out
      exact h1
end Go.Proofs.Ytbgfijnadfeleaa.Cs
