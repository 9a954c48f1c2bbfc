/- CnfResolves: the plain law and the walk. Condition: the memory. -/
import Derived.Test.YtbgfijnadfeleaaLb
namespace Go.Proofs.Ytbgfijnadfeleaa.La
open Go.RowKit Go.Proofs.Ytbgfijnadfeleaa.Mem Go.Proofs.Ytbgfijnadfeleaa.Sl Go.Proofs.Ytbgfijnadfeleaa.Cl Go.Proofs.Ytbgfijnadfeleaa.App Go.Proofs.Ytbgfijnadfeleaa.Cm Go.Shelf
open Go.Proofs.Ytbgfijnadfeleaa.FnL (Pred enc_at below_then)
open Go.Proofs.Ytbgfijnadfeleaa.Cp (normL bothL InR mem_norm)
open Go.Proofs.Ytbgfijnadfeleaa.Ch (hasB subB sameB Same_any Sub_any)
open Go.Proofs.Ytbgfijnadfeleaa.Cx (Resolve_any resN resB resE resL resOk res_yes res_no cl_fro resL_in)
open Go.Proofs.Ytbgfijnadfeleaa.Cw (noL)
set_option linter.unusedVariables false

theorem valB_mono {m : List Bool} {a b : List Int} (h : ∀ x, x ∈ a → x ∈ b) (ha : valB m a = true) : valB m b = true := by
  obtain ⟨x, hx, h1⟩ := List.any_eq_true.1 ha
  exact List.any_eq_true.2 ⟨x, h x hx, h1⟩
theorem sub_mem {a b : List Int} (h : subB a b = true) : ∀ x, x ∈ a → x ∈ b := fun x hx => by
  have h1 : b.contains x = true := List.all_eq_true.1 h x hx
  exact List.contains_iff_mem.1 h1
theorem sub_val {m : List Bool} {a b : List Int} (h : subB a b = true) (ha : valB m a = true) : valB m b = true := valB_mono (sub_mem h) ha
theorem mem_noL {l : List Int} {x y : Int} (h : y ∈ l) (hne : y ≠ x) : y ∈ noL l x := List.mem_filter.2 ⟨h, by simp [hne]⟩
/-- What is resolved out of two clauses is true wherever both are. -/
theorem res_val {m : List Bool} {a b : List Int} {v : Int} (hok : resOk a b v = true) (ha : valB m a = true) (hb : valB m b = true) : valB m (resN a b v) = true := by
  rw [(res_yes hok).1]
  refine valB_mono (fun x hx => (mem_norm (resL a b v) x).2 hx) ?_
  have hv : 1 ≤ v := by
    unfold resOk at hok
    simp only [Bool.and_eq_true, decide_eq_true_eq] at hok
    exact hok.1
  obtain ⟨x, hx, h1⟩ := List.any_eq_true.1 ha
  obtain ⟨y, hy, h2⟩ := List.any_eq_true.1 hb
  by_cases ex : x = v
  · by_cases ey : y = -v
    · exfalso
      rw [ex] at h1
      rw [ey] at h2
      unfold isB at h1 h2
      have e1 : varI v = v := by unfold varI; rw [if_neg (by omega)]
      have e2 : varI (-v) = v := by unfold varI; rw [if_pos (by omega)]; omega
      rw [e1] at h1
      rw [e2] at h2
      simp only [Bool.and_eq_true, decide_eq_true_eq, beq_iff_eq] at h1 h2
      have h3 := h1.2.2
      have h4 := h2.2.2
      rw [h3] at h4
      have h5 : (decide (0 < v)) = true := decide_eq_true (by omega)
      have h6 : (decide (0 < -v)) = false := decide_eq_false (by omega)
      rw [h5, h6] at h4
      cases h4
    · exact List.any_eq_true.2 ⟨y, List.mem_append.2 (.inr (mem_noL hy ey)), h2⟩
  · exact List.any_eq_true.2 ⟨x, List.mem_append.2 (.inl (mem_noL hx ex)), h1⟩
theorem sub_refl (a : List Int) : subB a a = true := List.all_eq_true.2 fun x hx => by
  show a.contains x = true
  simpa using hx
theorem same_refl (a : List Int) : sameB a a = true := by unfold sameB; rw [sub_refl]; rfl
theorem sub_nil (a : List Int) : subB [] a = true := rfl

set_option maxRecDepth 100000 in
theorem resolves_any {B : Nat} {w : World} (hB : B ≤ w.heap.size) (x : CV) (hx : ClOk B w x) (y : CV) (hy : ClOk B w y) (v : Int) (a : Option Addr) (mn mc : Nat) (m : List Bool) (hm : MdOk B w a mn m) :
    Calls Try.prog 6 #[x.v, y.v, .int .i64 v, .slice a mn mc] w fun e w' => e = .returned (.bool true) ∧ Below w.heap.size w w' := by
  have HX := Lib.hid hx
  have HY := Lib.hid hy
  have HM := Lib.hid hm
  have HS := Lib.hid hB
  obtain ⟨a1, n1, c1, l1⟩ := x
  obtain ⟨a2, n2, c2, l2⟩ := y
  have hm1 : n1 ≤ 9223372036854775807 := hx.mx
  have hm2 : n2 ≤ 9223372036854775807 := hy.mx
  have hm3 : mn ≤ 9223372036854775807 := hm.mx
  have HL1 := Lib.hid (show n1 = l1.length from hx.ln)
  have HL2 := Lib.hid (show n2 = l2.length from hy.ln)
  have HI1 := Lib.hid (show InR l1 from hx.lb)
  have HI2 := Lib.hid (show InR l2 from hy.lb)
  dsimp only [CV.v]
  clear hx hy hB hm
  by_cases p1 : 300 < n1
  · go_enter Try.func6, Try.ntmps6
    go_wp2
    go_ret
    exact ⟨rfl, Below.refl _ _⟩
  by_cases p2 : 300 < n2
  · go_enter Try.func6, Try.ntmps6
    go_wp2
    go_ret
    exact ⟨rfl, Below.refl _ _⟩
  by_cases p3 : 3000 < mn
  · go_enter Try.func6, Try.ntmps6
    go_wp2
    go_ret
    exact ⟨rfl, Below.refl _ _⟩
  have CA := Lib.hid fun (W : World) (hb : Below w.heap.size w W) => HX.out.below (hb.mono HS.out)
  have CB := Lib.hid fun (W : World) (hb : Below w.heap.size w W) => HY.out.below (hb.mono HS.out)
  have CM := Lib.hid fun (W : World) (hb : Below w.heap.size w W) => HM.out.below (hb.mono HS.out)
  have CS := Lib.hid fun (W : World) (hb : Below w.heap.size w W) => Nat.le_trans HS.out hb.size
  have HC := Lib.hid (Resolve_any (w := w) (B := B) ⟨a1, n1, c1, l1⟩ ⟨a2, n2, c2, l2⟩ v HX.out HY.out HS.out (by show n1 ≤ _; omega) (by show n2 ≤ _; omega))
  have HVA := Lib.hid fun W hb => Value_any (c := mc) (CS.out W hb) (CM.out W hb) ⟨a1, n1, c1, l1⟩ (CA.out W hb)
  have HVB := Lib.hid fun W hb => Value_any (c := mc) (CS.out W hb) (CM.out W hb) ⟨a2, n2, c2, l2⟩ (CB.out W hb)
  have HSM := Lib.hid fun W hb => Same_any ⟨a1, n1, c1, l1⟩ ⟨a2, n2, c2, l2⟩ (CA.out W hb) (CB.out W hb) (CS.out W hb)
  have HSA := Lib.hid fun W hb => Same_any ⟨a1, n1, c1, l1⟩ ⟨a1, n1, c1, l1⟩ (CA.out W hb) (CA.out W hb) (CS.out W hb)
  have HU1 := Lib.hid fun W hb => Sub_any ⟨a1, n1, c1, l1⟩ ⟨a2, n2, c2, l2⟩ (CA.out W hb) (CB.out W hb) (CS.out W hb)
  have HU2 := Lib.hid fun W hb => Sub_any ⟨a2, n2, c2, l2⟩ ⟨a1, n1, c1, l1⟩ (CB.out W hb) (CA.out W hb) (CS.out W hb)
  have HUN := Lib.hid fun W hb => Sub_any ⟨none, 0, 0, []⟩ ⟨a1, n1, c1, l1⟩ cl_nil (CA.out W hb) (CS.out W hb)
  dsimp only [CV.v] at HC HVA HVB HSM HSA HU1 HU2 HUN
  have HVC := Lib.hid fun (W : World) (X : Option Addr) (hb : Below w.heap.size w W) (hF : Fro W w.heap.size X (resN l1 l2 v).length (LI (resN l1 l2 v))) =>
    Value_any (c := mc) (B := W.heap.size) (Nat.le_refl _) ((CM.out W hb).up (Nat.le_trans HS.out hb.size)) ⟨X, (resN l1 l2 v).length, (resN l1 l2 v).length, resN l1 l2 v⟩ (cl_fro hF (by
      unfold resN; split
      · exact Cp.norm_in (resL_in HI1.out HI2.out v)
      · intro z hz; cases hz) (by
      unfold resN; split
      · refine Nat.le_trans (Cp.norm_len _) ?_
        unfold resL
        rw [List.length_append]
        have := Cw.noL_len l1 v; have := Cw.noL_len l2 (-v); have := HL1.out; have := HL2.out
        omega
      · simp))
  dsimp only [CV.v] at HVC
  rw [same_refl] at HSA
  rw [sub_nil] at HUN
  have HLW := Lib.hid (fun (h1 : resOk l1 l2 v = true) (h2 : valB m l1 = true) (h3 : valB m l2 = true) => res_val h1 h2 h3)
  have HLS := Lib.hid (fun (h1 : subB l1 l2 = true) (h2 : valB m l1 = true) => sub_val h1 h2)
  have HSE := Lib.hid (show sameB l1 l2 = (subB l1 l2 && subB l2 l1) from rfl)
  have HRE := Lib.hid (show resE l1 l2 v = if resOk l1 l2 v then 0 else 2 from rfl)
  generalize resN l1 l2 v = rn at *
  generalize resB l1 l2 v = rb at *
  generalize resE l1 l2 v = re at *
  generalize resOk l1 l2 v = ok at *
  generalize sameB l1 l2 = sb at *
  generalize subB l1 l2 = s1 at *
  generalize subB l2 l1 = s2 at *
  generalize valB m l1 = v1 at *
  generalize valB m l2 = v2 at *
  generalize valB m rn = vr at *
  go_enter Try.func6, Try.ntmps6
  go_wp2_with fail
  refine HC.out.mono ?_
  rintro e w1 ⟨⟨X, rfl, hF⟩, hb1⟩
  have HF := Lib.hid hF
  have HB1 := Lib.hid hb1
  generalize rn.length = r at *
  clear hF hb1 HC
  go_upto_region 4 with (fail)
  go_cut [56] from 33 to 55 (fun z wx => z = .bool false ∧ Below w.heap.size w wx)
  case first =>
    cases ok with
    | false =>
      obtain rfl : re = 2 := HRE.out
      go_wp2
      go_meet
      case rel => exact ⟨rfl, HB1.out⟩
    | true =>
      obtain rfl : re = 0 := HRE.out
      by_cases hvm : v ≤ (mn : Int)
      · have HC := Lib.hid (HVA.out w1 HB1.out)
        go_wp2_with fail
        refine HC.out.mono ?_
        rintro e w2 ⟨rfl, hb2⟩
        have HB2 := Lib.hid (below_then HB1.out hb2 HB1.out.size)
        have HF2 := Lib.hid (HF.out.below hb2)
        clear hb2 HC
        cases v1 with
        | false =>
          go_wp2
          go_meet
          case rel => exact ⟨rfl, HB2.out⟩
        | true =>
          have HC := Lib.hid (HVB.out w2 HB2.out)
          go_wp2_with fail
          refine HC.out.mono ?_
          rintro e w3 ⟨rfl, hb3⟩
          have HB3 := Lib.hid (below_then HB2.out hb3 HB2.out.size)
          have HF3 := Lib.hid (HF2.out.below hb3)
          clear hb3 HC
          cases v2 with
          | false =>
            go_wp2
            go_meet
            case rel => exact ⟨rfl, HB3.out⟩
          | true =>
            obtain rfl : vr = true := HLW.out (by trivial) (by trivial) (by trivial)
            have HC := Lib.hid (HVC.out w3 X HB3.out HF3.out)
            go_wp2_with fail
            refine HC.out.mono ?_
            rintro e w4 ⟨rfl, hb4⟩
            have HB4 := Lib.hid (below_then HB3.out hb4 HB3.out.size)
            clear hb4 HC
            go_wp2
            go_meet
            case rel => exact ⟨rfl, HB4.out⟩
      · go_wp2
        go_meet
        case rel => exact ⟨rfl, HB1.out⟩
  case rest =>
    obtain ⟨rfl, hb⟩ := hcut
    rename World => wa
    have HBA := Lib.hid hb
    clear hb HB1 HF HLW HRE HVC
    go_upto_region 6 with (fail)
    go_cut [70] from 57 to 69 (fun z wx => z = .bool false ∧ Below w.heap.size w wx)
    case first =>
      have HC := Lib.hid (HU1.out wa HBA.out)
      go_wp2_with fail
      refine HC.out.mono ?_
      rintro e w2 ⟨rfl, hb2⟩
      have HB2 := Lib.hid (below_then HBA.out hb2 HBA.out.size)
      clear hb2 HC
      cases s1 with
      | false =>
        go_wp2
        go_meet
        case rel => exact ⟨rfl, HB2.out⟩
      | true =>
        have HC := Lib.hid (HVA.out w2 HB2.out)
        go_wp2_with fail
        refine HC.out.mono ?_
        rintro e w3 ⟨rfl, hb3⟩
        have HB3 := Lib.hid (below_then HB2.out hb3 HB2.out.size)
        clear hb3 HC
        cases v1 with
        | false =>
          go_wp2
          go_meet
          case rel => exact ⟨rfl, HB3.out⟩
        | true =>
          obtain rfl : v2 = true := HLS.out (by trivial) (by trivial)
          have HC := Lib.hid (HVB.out w3 HB3.out)
          go_wp2_with fail
          refine HC.out.mono ?_
          rintro e w4 ⟨rfl, hb4⟩
          have HB4 := Lib.hid (below_then HB3.out hb4 HB3.out.size)
          clear hb4 HC
          go_wp2
          go_meet
          case rel => exact ⟨rfl, HB4.out⟩
    case rest =>
      obtain ⟨rfl, hb⟩ := hcut
      rename World => wb
      have HBB := Lib.hid hb
      clear hb HBA HLS HVA HVB
      have HC := Lib.hid (HSM.out wb HBB.out)
      go_wp2_with fail
      refine HC.out.mono ?_
      rintro e w2 ⟨rfl, hb2⟩
      have HB2 := Lib.hid (below_then HBB.out hb2 HBB.out.size)
      clear hb2 HC
      have HC := Lib.hid (HU1.out w2 HB2.out)
      go_wp2_with fail
      refine HC.out.mono ?_
      rintro e w3 ⟨rfl, hb3⟩
      have HB3 := Lib.hid (below_then HB2.out hb3 HB2.out.size)
      clear hb3 HC
      have HTAIL := Lib.hid (fun (w4 : World) (hb4 : Below w.heap.size w w4) => HUN.out w4 hb4)
      cases s1 with
      | false =>
        obtain rfl : sb = false := HSE.out
        have HC := Lib.hid (HUN.out w3 HB3.out)
        go_wp2_with fail
        refine HC.out.mono ?_
        rintro e w4 ⟨rfl, hb4⟩
        have HB4 := Lib.hid (below_then HB3.out hb4 HB3.out.size)
        clear hb4 HC
        have HC := Lib.hid (HSA.out w4 HB4.out)
        go_wp2_with fail
        refine HC.out.mono ?_
        rintro e w5 ⟨rfl, hb5⟩
        have HB5 := Lib.hid (below_then HB4.out hb5 HB4.out.size)
        clear hb5 HC
        have HC := Lib.hid (works_any w5)
        go_wp2_with fail
        refine HC.out.mono ?_
        rintro e w6 ⟨rfl, hb6⟩
        have HB6 := Lib.hid (below_then HB5.out hb6 HB5.out.size)
        clear hb6 HC
        go_wp2
        go_ret
        exact ⟨rfl, HB6.out⟩
      | true =>
        obtain rfl : sb = s2 := HSE.out
        have HC := Lib.hid (HU2.out w3 HB3.out)
        go_wp2_with fail
        refine HC.out.mono ?_
        rintro e w3' ⟨rfl, hb3⟩
        have HB3' := Lib.hid (below_then HB3.out hb3 HB3.out.size)
        clear hb3 HC
        have HC := Lib.hid (HUN.out w3' HB3'.out)
        go_wp2_with fail
        refine HC.out.mono ?_
        rintro e w4 ⟨rfl, hb4⟩
        have HB4 := Lib.hid (below_then HB3'.out hb4 HB3'.out.size)
        clear hb4 HC
        have HC := Lib.hid (HSA.out w4 HB4.out)
        go_wp2_with fail
        refine HC.out.mono ?_
        rintro e w5 ⟨rfl, hb5⟩
        have HB5 := Lib.hid (below_then HB4.out hb5 HB4.out.size)
        clear hb5 HC
        have HC := Lib.hid (works_any w5)
        go_wp2_with fail
        refine HC.out.mono ?_
        rintro e w6 ⟨rfl, hb6⟩
        have HB6 := Lib.hid (below_then HB5.out hb6 HB5.out.size)
        clear hb6 HC
        go_wp2
        go_ret
        exact ⟨rfl, HB6.out⟩
end Go.Proofs.Ytbgfijnadfeleaa.La
