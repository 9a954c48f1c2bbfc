/- good: the walk (what follows where it answers true). -/
import Derived.Test.YtfpohiflpemkjaaExW
import Derived.Test.YtfpohiflpemkjaaMo
namespace Go.Proofs.Ytfpohiflpemkjaa.Ex
open Go.RowKit Go.Proofs.Ytfpohiflpemkjaa.Mem Go.Proofs.Ytfpohiflpemkjaa.Sl Go.Proofs.Ytfpohiflpemkjaa.Cl Go.Proofs.Ytfpohiflpemkjaa.App Go.Proofs.Ytfpohiflpemkjaa.Mo Go.Shelf
open Go.Proofs.Ytfpohiflpemkjaa.FnL (Pred enc_at below_then)
set_option linter.unusedVariables false

def condG (cs : List CV) (x : WV) (m : List Bool) : Prop := holdsB m cs = true → valB m x.c.l = false → holdsB (fixB m x.l.l) cs = true ∧ valB (fixB m x.l.l) x.c.l = true
def GoodR (vars : Nat) (cs : List CV) (x : WV) (e : Ending) : Prop := ∃ b : Bool, e = .returned (.bool b) ∧ (b = true → ∀ k, k < 2 ^ vars → condG cs x (modelB vars k))
set_option maxRecDepth 100000 in
set_option maxHeartbeats 4000000 in
theorem good_any {B : Nat} {w : World} (hB : B ≤ w.heap.size) (vars : Nat) (hv6 : vars ≤ 6) (ca : Option Addr) (cn cc : Nat) (cs : List CV) (hcs : ClsOk B w ca cn cs) (x : WV) (hx1 : ClOk B w x.l) (hx2 : ClOk B w x.c) (hrt : rightB vars x.l.l = true) :
    Calls Try.prog 18 #[.int .i64 vars, .slice ca cn cc, .agg #[x.l.v, x.c.v]] w fun e w' => GoodR vars cs x e ∧ Below w.heap.size w w' := by
  obtain ⟨⟨A1, n1, c1, l1⟩, ⟨A2, n2, c2, l2⟩⟩ := x
  have HS := Lib.hid hB
  have HCS := Lib.hid hcs
  have HX1 := Lib.hid hx1
  have HX2 := Lib.hid hx2
  have HRT := Lib.hid hrt
  have HLL := Lib.hid (show n1 = l1.length from hx1.ln)
  have hyn : n1 ≤ 9223372036854775807 := hx1.mx
  clear hB hcs hx1 hx2 hrt
  dsimp only [CV.v]
  go_enter Try.func18, Try.ntmps18
  go_upto_region 1 with (fail)
  obtain ⟨W0, hW0⟩ : ∃ W0, W0 = w.alloc (.cells #[.slice A1 n1 c1, .slice A2 n2 c2] 42) := ⟨_, rfl⟩
  rw [← hW0]
  have HB0 := Lib.hid (show Below w.heap.size w W0 from hW0 ▸ ((Below.refl _ w).alloc (Nat.le_refl _) _))
  have HW0 := Lib.hid (show W0.heap.size = w.heap.size + 1 by rw [hW0]; simp)
  have K0 := Lib.hid (show Blk W0 w.heap.size 42 #[.slice A1 n1 c1, .slice A2 n2 c2] from hW0 ▸ Blk.new w _ _)
  clear hW0
  have hp : 2 ^ vars ≤ 64 := Nat.le_trans (Nat.pow_le_pow_right (by decide) hv6) (by decide)
  obtain ⟨N, hN⟩ : ∃ N, N = 2 ^ vars := ⟨_, rfl⟩
  have HN := Lib.hid hN
  rw [← hN] at hp
  clear hN
  go_wp2_with fail
  go_loopw [7] (fun i wr => ∃ k : Nat, k ≤ N ∧ i = .int .i64 k ∧ (∀ j, j < k → condG cs ⟨⟨A1, n1, c1, l1⟩, ⟨A2, n2, c2, l2⟩⟩ (modelB vars j)) ∧ Below W0.heap.size W0 wr) (fun i _ => N - (intOf i).toNat)
  case atStart => exact ⟨0, Nat.zero_le _, rfl, fun j hj => by omega, Below.refl _ _⟩
  case round =>
    obtain ⟨k, hk, rfl, hf, hb⟩ := hrel
    have HF := Lib.hid hf
    have HB1 := Lib.hid hb
    have HB := Lib.hid (below_then HB0.out hb HB0.out.size)
    have HKW := Lib.hid (K0.out.below hb)
    clear hf hb
    have hsh : wrap64 ((2 : Int) ^ vars) = (N : Int) := by
      rw [show ((2 : Int) ^ vars) = (N : Int) by rw [HN.out]; simp]
      unfold wrap64; omega
    by_cases hlt : k < N
    · have HMO := Lib.hid (model_any vars k (by omega) (by rw [← HN.out]; exact hlt) wr)
      go_wp2_with fail
      refine HMO.out.mono ?_
      rintro e w1 ⟨A, c, rfl, hO, hb1⟩
      have HML := Lib.hid (show (modelB vars k).length = vars from modelB_length _ _)
      have HCG := Lib.hid (show ∀ j, j < k + 1 → j = k ∨ j < k from fun j hj => by omega)
      obtain ⟨m, hm⟩ : ∃ m, m = modelB vars k := ⟨_, rfl⟩
      have HM := Lib.hid hm
      rw [← hm] at hO HML
      clear hm
      obtain ⟨base, hbase⟩ : ∃ base, base = wr.heap.size := ⟨_, rfl⟩
      rw [← hbase] at hO
      have HA1 := Lib.hid (show ∀ i, A = some ⟨i, 0, none⟩ → base ≤ i ∧ i < w1.heap.size from fun i hi => by
        obtain ⟨_, ⟨h, _⟩ | ⟨g, h, h1, _, h3⟩⟩ := hO
        · rw [h] at hi; cases hi
        · rw [h] at hi; cases hi; exact ⟨h1, h3.lt⟩)
      have HO1 := Lib.hid hO
      have HB2 := Lib.hid (below_then HB1.out hb1 HB1.out.size)
      have HWS := Lib.hid (show W0.heap.size ≤ base ∧ base ≤ w1.heap.size from ⟨hbase ▸ HB1.out.size, hbase ▸ hb1.size⟩)
      clear hO hb1 HMO hbase
      go_upto_region 6 with (fail)
      obtain ⟨W2, hW2⟩ : ∃ W2, W2 = w1.alloc (.cells #[.int .i64 vars, .slice ca cn cc] 34) := ⟨_, rfl⟩
      rw [← hW2]
      have hbx : Below w1.heap.size w1 W2 := hW2 ▸ ((Below.refl _ w1).alloc (Nat.le_refl _) _)
      have HKF := Lib.hid (show Blk W2 w1.heap.size 34 #[.int .i64 vars, .slice ca cn cc] from hW2 ▸ Blk.new w1 _ _)
      have HO2 := Lib.hid (HO1.out.below hbx)
      have HB3 := Lib.hid (below_then HB2.out hbx HB2.out.size)
      have HW2 := Lib.hid (show W2.heap.size = w1.heap.size + 1 by rw [hW2]; simp)
      clear hW2 hbx
      have HBW := Lib.hid (below_then HB0.out HB3.out HB0.out.size)
      have q1 : W2.cell? ⟨w1.heap.size, 0, none⟩ = some (.int .i64 vars) := HKF.out.cell 0
      have q2 : W2.cell? ⟨w1.heap.size, 1, none⟩ = some (.slice ca cn cc) := HKF.out.cell 1
      have HBS := Lib.hid (show B ≤ W2.heap.size from Nat.le_trans HS.out HBW.out.size)
      have HC := Lib.hid (Holds_any (c := c) (cc := cc) (vars := vars) (Nat.le_refl _) (OwnM.md HO2.out (by omega)) ((HCS.out.below (HBW.out.mono HS.out)).up HBS.out))
      go_wp2_with fail
      refine HC.out.mono ?_
      rintro e w3 ⟨rfl, hb3⟩
      have HO3 := Lib.hid (HO2.out.below hb3)
      have HB4 := Lib.hid (below_then HB3.out hb3 HB3.out.size)
      have HKF3 := Lib.hid (HKF.out.below hb3)
      have HBS3 := Lib.hid (show B ≤ w3.heap.size from Nat.le_trans HBS.out hb3.size)
      have HBW3 := Lib.hid (below_then HBW.out hb3 HBW.out.size)
      clear hb3 HC q1 q2
      cases hh : holdsB m cs with
      | false =>
        have HE := Lib.hid (show ∀ j, j < k + 1 → condG cs ⟨⟨A1, n1, c1, l1⟩, ⟨A2, n2, c2, l2⟩⟩ (modelB vars j) from fun j hj => by
          rcases HCG.out j hj with rfl | h
          · rw [← HM.out]; intro h1; rw [hh] at h1; cases h1
          · exact HF.out j h)
        clear hh
        go_wp2
        go_roundw
        case rel => exact ⟨k + 1, by omega, by go_num, HE.out, HB4.out⟩
        case measure => simp [intOf]; omega
      | true =>
        have HH := Lib.hid hh
        clear hh
        have p0 : w3.cell? ⟨w.heap.size, 0, none⟩ = some (.slice A1 n1 c1) := (K0.out.below HB4.out).cell 0
        have p1 : w3.cell? ⟨w.heap.size, 1, none⟩ = some (.slice A2 n2 c2) := (K0.out.below HB4.out).cell 1
        have HC := Lib.hid (Value_any (c := c) (Nat.le_refl _) (OwnM.md HO3.out (by omega)) ⟨A2, n2, c2, l2⟩ ((HX2.out.below (HBW3.out.mono HS.out)).up HBS3.out))
        go_wp2_with fail
        refine HC.out.mono ?_
        rintro e w4 ⟨rfl, hb4⟩
        have HO4 := Lib.hid (HO3.out.below hb4)
        have HB5 := Lib.hid (below_then HB4.out hb4 HB4.out.size)
        have HKF4 := Lib.hid (HKF3.out.below hb4)
        have HS4 := Lib.hid (show w1.heap.size < w4.heap.size by have := HKF4.out.lt; exact this)
        clear hb4 HC p0 p1
        cases hv : valB m l2 with
        | true =>
          have HE := Lib.hid (show ∀ j, j < k + 1 → condG cs ⟨⟨A1, n1, c1, l1⟩, ⟨A2, n2, c2, l2⟩⟩ (modelB vars j) from fun j hj => by
            rcases HCG.out j hj with rfl | h
            · rw [← HM.out]; intro _ h1; rw [show valB m l2 = false from h1] at hv; cases hv
            · exact HF.out j h)
          clear hv
          go_wp2
          go_roundw
          case rel => exact ⟨k + 1, by omega, by go_num, HE.out, HB5.out⟩
          case measure => simp [intOf]; omega
        | false =>
          have HVF := Lib.hid hv
          clear hv
          have p0 : w4.cell? ⟨w.heap.size, 0, none⟩ = some (.slice A1 n1 c1) := (K0.out.below HB5.out).cell 0
          go_wp2_with fail
          clear p0
          go_loopw [10] (fun i wr3 => ∃ j : Nat, j ≤ n1 ∧ i = .int .i64 j ∧ App.Own wr3 base 4 A vars c ((fixB m (l1.take j)).map Value.bool) ∧ Blk wr3 w1.heap.size 34 #[.int .i64 vars, .slice ca cn cc] ∧ Below W0.heap.size W0 wr3) (fun i _ => n1 - (intOf i).toNat)
          case atStart => exact ⟨0, Nat.zero_le _, rfl, HO4.out, HKF4.out, HB5.out⟩
          case round =>
            clear HO4 HKF4 HB5 HO3 HKF3 HB4
            obtain ⟨j, hj, rfl, hO, hKF, hb⟩ := hrel
            have HO := Lib.hid hO
            have HKF := Lib.hid hKF
            have HB5 := Lib.hid hb
            have HBW5 := Lib.hid (below_then HB0.out hb HB0.out.size)
            have HBS5 := Lib.hid (show B ≤ wr.heap.size from Nat.le_trans HS.out HBW5.out.size)
            have p0 : wr.cell? ⟨w.heap.size, 0, none⟩ = some (.slice A1 n1 c1) := (K0.out.below HB5.out).cell 0
            clear hO hKF hb
            by_cases hlt2 : j < n1
            · have hjl : j < l1.length := by rw [← HLL.out]; exact hlt2
              obtain ⟨b2, off2, ha2, hbl2, hc2⟩ := RdV.at_ ((HX1.out.below (HBW5.out.mono HS.out)).rd.rd HBS5.out) (enc_at (enc := Value.int .i32) hjl)
              dsimp only at ha2
              subst ha2
              have HM3 := Lib.hid (show l1[j]'hjl ∈ l1 from List.getElem_mem hjl)
              have HFX := Lib.hid (show fixB m (l1.take (j + 1)) = setLit (fixB m (l1.take j)) (l1[j]'hjl) by unfold fixB; rw [List.take_succ_eq_append_getElem hjl, List.foldl_append]; rfl)
              have hv := right_of HRT.out HM3.out
              have hlb := HX1.out.lb _ HM3.out
              have HC := Lib.hid (fun W => Var_any (l1[j]'hjl) hlb.1 hlb.2 W)
              have HST := Lib.hid (show setLit (fixB m (l1.take j)) (l1[j]'hjl) = (fixB m (l1.take j)).set ((varI (l1[j]'hjl)).toNat - 1) (decide (0 < l1[j]'hjl)) from rfl)
              have HFL := Lib.hid (show (fixB m (l1.take j)).length = vars by rw [fixB_length]; exact HML.out)
              generalize fixB m (l1.take j) = M2 at *
              generalize l1[j]'hjl = x at *
              generalize hvv : varI x = v at *
              clear hlb hjl hbl2 hvv
              obtain ⟨hv1, hv2⟩ := hv
              obtain ⟨g, hg, hbg, hrow⟩ := HO.out.row (by omega)
              subst hg
              have hcs : wr.cell? ⟨g, v.toNat - 1, none⟩ = some (.bool (M2.getD (v.toNat - 1) false)) := hrow.cell (bools_at (by rw [HFL.out]; omega))
              have hfz : wr.frozen? ⟨g, v.toNat - 1, none⟩ = false := hrow.frozen _
              have e1 : IntKind.i64.wrap (v - 1) = v - 1 := IntWalk.i64_in _ (by omega)
              have HGG := Lib.hid (HA1.out g rfl)
              have HNX := Lib.hid (show App.Own (wr.setCell ⟨g, v.toNat - 1, none⟩ (.bool (decide (0 < x)))) base 4 (some ⟨g, 0, none⟩) vars c ((fixB m (l1.take (j + 1))).map Value.bool) by
                have := HO.out.set_ (v.toNat - 1) (by omega) (.bool (decide (0 < x)))
                rw [HFX.out, HST.out, List.map_set]; exact this)
              have HNK := Lib.hid (HKF.out.far (p := ⟨g, v.toNat - 1, none⟩) (by have := HGG.out; show w1.heap.size ≠ g; omega) (.bool (decide (0 < x))))
              have HNB := Lib.hid (HB5.out.setCell (p := ⟨g, v.toNat - 1, none⟩) (by have := HGG.out; have := HWS.out; show W0.heap.size ≤ g; omega) (.bool (decide (0 < x))))
              clear hrow hbg
              go_wp2_with fail
              refine (HC.out _).mono ?_
              rintro e w5 ⟨rfl, rfl⟩
              go_wp2
              go_roundw
              case rel => exact ⟨j + 1, by omega, by go_num, HNX.out, HNK.out, HNB.out⟩
              case measure => simp [intOf]; omega
            · have HEM := Lib.hid (show fixB m (l1.take j) = fixB m l1 by rw [List.take_of_length_le (by rw [← HLL.out]; omega)])
              have HO5 := Lib.hid (HEM.out ▸ HO.out)
              have q1 : wr.cell? ⟨w1.heap.size, 0, none⟩ = some (.int .i64 vars) := HKF.out.cell 0
              have q2 : wr.cell? ⟨w1.heap.size, 1, none⟩ = some (.slice ca cn cc) := HKF.out.cell 1
              have HC := Lib.hid (Holds_any (c := c) (cc := cc) (vars := vars) (Nat.le_refl _) (OwnM.md HO5.out (by omega)) ((HCS.out.below (HBW5.out.mono HS.out)).up HBS5.out))
              clear HO HEM hj
              go_wp2_with fail
              refine HC.out.mono ?_
              rintro e w5 ⟨rfl, hb5⟩
              have HO6 := Lib.hid (HO5.out.below hb5)
              have HB6 := Lib.hid (below_then HB5.out hb5 HB5.out.size)
              have HBW6 := Lib.hid (below_then HBW5.out hb5 HBW5.out.size)
              have HBS6 := Lib.hid (show B ≤ w5.heap.size from Nat.le_trans HBS5.out hb5.size)
              clear hb5 HC q1 q2 p0
              cases hh2 : holdsB (fixB m l1) cs with
              | false =>
                clear hh2
                go_wp2
                go_ret
                exact ⟨⟨false, rfl, fun h => by cases h⟩, HBW6.out⟩
              | true =>
                have HH2 := Lib.hid hh2
                clear hh2
                have p1 : w5.cell? ⟨w.heap.size, 1, none⟩ = some (.slice A2 n2 c2) := (K0.out.below HB6.out).cell 1
                have HC := Lib.hid (Value_any (c := c) (Nat.le_refl _) (OwnM.md HO6.out (by omega)) ⟨A2, n2, c2, l2⟩ ((HX2.out.below (HBW6.out.mono HS.out)).up HBS6.out))
                go_wp2_with fail
                refine HC.out.mono ?_
                rintro e w6 ⟨rfl, hb6⟩
                have HB7 := Lib.hid (below_then HB6.out hb6 HB6.out.size)
                have HBW7 := Lib.hid (below_then HBW6.out hb6 HBW6.out.size)
                clear hb6 HC p1
                cases hv2 : valB (fixB m l1) l2 with
                | false =>
                  clear hv2
                  go_wp2
                  go_ret
                  exact ⟨⟨false, rfl, fun h => by cases h⟩, HBW7.out⟩
                | true =>
                  have HE := Lib.hid (show ∀ j, j < k + 1 → condG cs ⟨⟨A1, n1, c1, l1⟩, ⟨A2, n2, c2, l2⟩⟩ (modelB vars j) from fun j hj => by
                    rcases HCG.out j hj with rfl | h
                    · rw [← HM.out]; intro _ _; exact ⟨HH2.out, hv2⟩
                    · exact HF.out j h)
                  clear hv2
                  go_wp2
                  go_roundw
                  case rel => exact ⟨k + 1, by omega, by go_num, HE.out, HB7.out⟩
                  case measure => simp [intOf]; omega
    · have HFA := Lib.hid (show ∀ j, j < 2 ^ vars → condG cs ⟨⟨A1, n1, c1, l1⟩, ⟨A2, n2, c2, l2⟩⟩ (modelB vars j) from fun j hj => HF.out j (by rw [← HN.out] at hj; omega))
      go_wp2
      go_ret
      exact ⟨⟨true, rfl, fun _ => HFA.out⟩, HB.out⟩
end Go.Proofs.Ytfpohiflpemkjaa.Ex
