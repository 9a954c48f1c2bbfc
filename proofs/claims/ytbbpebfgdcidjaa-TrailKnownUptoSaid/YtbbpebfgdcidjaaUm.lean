/- tells of layer 10's statements: the trail tells of itself what the document's does. Conditions: the bounds, the memory. -/
import Derived.Test.YtbbpebfgdcidjaaUl
namespace Go.Proofs.Ytbbpebfgdcidjaa.Ta
open Go.RowKit Go.Proofs.Ytbbpebfgdcidjaa.Mem Go.Proofs.Ytbbpebfgdcidjaa.Sl Go.Proofs.Ytbbpebfgdcidjaa.Cl Go.Proofs.Ytbbpebfgdcidjaa.App Go.Shelf
open Go.Proofs.Ytbbpebfgdcidjaa.FnL (enc_at below_then)
set_option linter.unusedVariables false

section
variable {w : World} {base gt gd : Nat} {m : TM} {q : TQ} {d : DM} {A : Option Addr} {c : Nat}
theorem mdl_len (m : TM) (ok : TOk m) : (modelV m).length ≤ 1048576 := by
  unfold modelV; split
  · rw [modelL_len]; exact ok.N
  · simp
set_option maxRecDepth 100000 in
set_option maxHeartbeats 4000000 in
theorem tells_any {n : Nat} (h : TrS w base gt m q) (k : DrS w base gd d A c) (r : RG n m d) (hn : n ≤ 100) :
    Calls Try.prog 22 #[.pointer (some ⟨gt, 0, none⟩), .pointer (some ⟨gd, 0, none⟩)] w fun e w' => e = .returned (.bool true) ∧ Below w.heap.size w w' := by
  have R := Lib.hid r
  have HT := Lib.hid (fun W (hb : Below w.heap.size w W) => h.below hb)
  have HD := Lib.hid (fun W (hb : Below w.heap.size w W) => k.below hb)
  have OK := Lib.hid r.rel.wf.ok
  have HLI := Lib.hid (lits_any h r.rel.wf.ok)
  have HLEN := Lib.hid (show m.lits.length ≤ 1000000 from r.rel.wf.ok.ln)
  clear h k r
  go_enter Try.func22, Try.ntmps22
  go_wp2_with fail
  refine HLI.out.mono ?_
  rintro e w1 ⟨A1, c1, rfl, hO1, hb1⟩
  have HO1 := Lib.hid hO1
  have HB1 := Lib.hid hb1
  have HMO := Lib.hid (model_any (HT.out w1 hb1) OK.out)
  clear hO1 hb1 HLI
  go_wp2_with fail
  refine HMO.out.mono ?_
  rintro e w2 ⟨⟨A2, c2, rfl, hO2⟩, hb2⟩
  have HO2 := Lib.hid (hO2.low HB1.out.size)
  have HB2 := Lib.hid (below_then HB1.out hb2 HB1.out.size)
  have HO12 := Lib.hid (HO1.out.below hb2)
  have HRM := Lib.hid (show Calls Try.prog 44 #[.pointer (some ⟨gd, 0, none⟩)] w2 fun e w' => (∃ A c, e = .returned (.tuple #[.slice A (modelV m).length c, .bool (decide (m.lits.length = m.N))]) ∧ App.Own w' w2.heap.size 4 A (modelV m).length c ((modelV m).map Value.bool)) ∧ Below w2.heap.size w2 w' from by
    have := rmodel_any (HD.out w2 (below_then HB1.out hb2 HB1.out.size)) R.out.rel.dok
    unfold RModelR at this
    rwa [R.out.rel.mdl.1, R.out.rel.mdl.2] at this)
  clear hO2 hb2 HMO HO1
  go_wp2_with fail
  refine HRM.out.mono ?_
  rintro e w3 ⟨⟨A3, c3, rfl, hO3⟩, hb3⟩
  have HO3 := Lib.hid hO3
  have HB3 := Lib.hid (below_then HB2.out hb3 HB2.out.size)
  have HO13 := Lib.hid (HO12.out.below hb3)
  have HO23 := Lib.hid (HO2.out.below hb3)
  clear hO3 hb3 HRM HO12 HO2
  have HC := Lib.hid (fun W (hb : Below w3.heap.size w3 W) => (show W.cell? ⟨gd, 0, none⟩ = some (.int .i64 (m.N : Int)) ∧ W.cell? ⟨gd, 1, none⟩ = some (.slice A m.lits.length c) ∧ W.cell? ⟨gd, 2, none⟩ = some (.int .i64 (m.starts.length : Int)) from by
    have hD := HD.out W (below_then HB3.out hb HB3.out.size)
    refine ⟨?_, ?_, ?_⟩
    · rw [← R.out.rel.N]; exact hD.blk.cell 0
    · rw [← R.out.rel.len]; exact hD.blk.cell 1
    · rw [← R.out.rel.top]; exact hD.blk.cell 2))
  have HC45 := Lib.hid (show Calls Try.prog 45 #[.pointer (some ⟨gd, 0, none⟩)] w3.drew fun e w' => (∃ A4 c4, e = .returned (.slice A4 m.lits.length c4) ∧ App.Own w' w3.heap.size 30 A4 m.lits.length c4 (LI m.lits)) ∧ Below w3.heap.size w3 w' from by
    have := rlits_any (HD.out w3.drew HB3.out.drew) R.out.rel.dok
    unfold OwnR at this
    rw [R.out.rel.lits] at this
    exact this.mono fun e w' h => ⟨h.1, (Below.refl _ _).drew.trans h.2⟩)
  have HC18 := Lib.hid (fun (w4 : World) (hb : Below w3.heap.size w3 w4) (A4 : Option Addr) (c4 : Nat) (hO : App.Own w4 w3.heap.size 30 A4 m.lits.length c4 (LI m.lits)) => (show Calls Try.prog 18 #[.slice A1 m.lits.length c1, .slice A4 m.lits.length c4] w4 fun e w' => e = .returned (.bool true) ∧ Below w3.heap.size w3 w' from by
    have := sameClause_any (w := w4) A1 m.lits.length c1 m.lits rfl ((HO13.out.below hb).rd) A4 m.lits.length c4 m.lits rfl hO.rd (by have := HLEN.out; omega) (by have := HLEN.out; omega)
    rw [beq_self_eq_true] at this
    exact this.mono fun e w' h => ⟨h.1, below_then hb h.2 hb.size⟩))
  have HC38 := Lib.hid (fun (w4 : World) (hb : Below w3.heap.size w3 w4) => (show Calls Try.prog 38 #[.slice A2 (modelV m).length c2, .slice A3 (modelV m).length c3] w4 fun e w' => e = .returned (.bool true) ∧ Below w3.heap.size w3 w' from by
    have := sameModel_any (w := w4) A2 (modelV m).length c2 (modelV m) rfl ((HO23.out.below hb).rd) A3 (modelV m).length c3 (modelV m) rfl (HO3.out.below hb).rd (mdl_len m OK.out) (mdl_len m OK.out)
    rw [beq_self_eq_true] at this
    exact this.mono fun e w' h => ⟨h.1, below_then hb h.2 hb.size⟩))
  have HCV := Lib.hid (fun (w4 : World) (hb : Below w3.heap.size w3 w4) => vars_any (HT.out w4 (below_then HB3.out hb HB3.out.size)) OK.out)
  have HCL := Lib.hid (fun (w4 : World) (hb : Below w3.heap.size w3 w4) => levels_any (HT.out w4 (below_then HB3.out hb HB3.out.size)))
  have HCN := Lib.hid (fun (w4 : World) (hb : Below w3.heap.size w3 w4) => len_any (HT.out w4 (below_then HB3.out hb HB3.out.size)))
  have HML := Lib.hid (mdl_len m OK.out)
  obtain ⟨k0, k1, k2⟩ := HC.out w3 (Below.refl _ _)
  generalize hML : (modelV m).length = ML at *
  generalize hLL : m.lits.length = L at *
  generalize hSL : m.starts.length = SL at *
  generalize hNN : m.N = N at *
  generalize decide (L = N) = bb at *
  have HNL := Lib.hid hNN
  have HLL := Lib.hid hLL
  have HMM := Lib.hid hML
  clear hML hLL hSL hNN
  go_wp2_with fail
  go_region_held3 (fun w' => w'.cell? ⟨gd, 0, none⟩ = some (.int .i64 (N : Int)) ∧ w'.cell? ⟨gd, 1, none⟩ = some (.slice A L c) ∧ w'.cell? ⟨gd, 2, none⟩ = some (.int .i64 (SL : Int))) (first | exact ⟨k0, k1, k2⟩ | exact y1 | exact y2 | exact y3)
    (first
      | (go_at_call 45
         refine HC45.out.mono ?_
         rintro e w4 ⟨⟨A4, c4, rfl, hO4⟩, hb4⟩
         have y1 := HC.out w4 hb4
         have HO4 := Lib.hid hO4
         have HB4 := Lib.hid hb4
         clear hO4 hb4)
      | (go_at_call 18
         refine (HC18.out w4 HB4.out A4 c4 HO4.out).mono ?_
         rintro e w5 ⟨rfl, hb5⟩
         have y2 := HC.out w5 hb5
         have HB5 := Lib.hid hb5
         clear hb5)
      | (go_at_call 28
         refine (HCV.out _ HB5.out).mono ?_
         rintro e w6 ⟨rfl, rfl⟩)
      | (go_at_call 11
         refine (HCL.out _ HB5.out).mono ?_
         rintro e w7 ⟨rfl, rfl⟩)
      | (go_at_call 29
         refine (HCN.out _ HB5.out).mono ?_
         rintro e w8 ⟨rfl, rfl⟩)
      | (go_at_call 38
         refine (HC38.out _ HB5.out).mono ?_
         rintro e w9 ⟨rfl, hb9⟩
         have y3 := HC.out w9 hb9
         have HB9 := Lib.hid hb9
         clear hb9))
  have HB10 := Lib.hid (below_then HB3.out HB9.out HB3.out.size)
  have HO1a := Lib.hid (HO13.out.below HB9.out)
  have HO2a := Lib.hid (HO23.out.below HB9.out)
  have HSZ := Lib.hid (show w.heap.size ≤ w9.heap.size from HB10.out.size)
  have HLB9 := Lib.hid (fun W (hb : Below w9.heap.size w9 W) => (show App.Own W w.heap.size 30 A1 L c1 (LI m.lits) ∧ App.Own W w.heap.size 4 A2 ML c2 ((modelV m).map Value.bool) ∧ Below w.heap.size w W from
    ⟨HO1a.out.below hb, (HO2a.out.below hb).low (Nat.le_refl _), HB10.out.trans (hb.mono HSZ.out)⟩))
  clear HC45 HC18 HC38 HCV HCL HCN HB4 HB5 HB9 HO3 HO4 HO13 HO23 HO1a HO2a HC y1 y2 y3 k0 k1 k2 HB1 HB2 HB3
  go_wp2_with fail
  go_loopw [10, 11] (fun gd' v wr => ∃ x : Int, -1 ≤ x ∧ x ≤ 10 ∧ v = .int .i64 x ∧ gd' = .bool true ∧ Below w9.heap.size w9 wr) (fun _ v _ => (10 - intOf v).toNat)
  case atStart => exact ⟨-1, by omega, by omega, rfl, rfl, by first | exact Below.refl _ _ | exact belowN (Below.refl _ _) _⟩
  case round =>
    obtain ⟨x, hx0, hx1, rfl, rfl, hb⟩ := hrel
    have HB := Lib.hid hb
    clear hb
    by_cases hlt : x ≤ 9
    · have HOF := Lib.hid (show Calls Try.prog 46 #[.pointer (some ⟨gd, 0, none⟩), .int .i64 x] wr fun e w' => e = .returned (.tuple #[.int .i64 (levelM m x), .int .i64 (reasonM m x), .int .i64 (placeM m x)]) ∧ Below wr.heap.size wr w' from by
        have := rof_any (HD.out wr (HLB9.out wr HB.out).2.2) R.out.rel.dok x
        rwa [R.out.rel.ofD] at this)
      have HTW := Lib.hid (fun W (hb : Below wr.heap.size wr W) => HT.out W (below_then (HLB9.out wr HB.out).2.2 hb (HLB9.out wr HB.out).2.2.size))
      have HDW := Lib.hid (fun W (hb : Below wr.heap.size wr W) => HD.out W (below_then (HLB9.out wr HB.out).2.2 hb (HLB9.out wr HB.out).2.2.size))
      have HL := Lib.hid (fun W (hb : Below wr.heap.size wr W) => (Level_any (HTW.out W hb) OK.out x).mono fun e w' h => (show e = .returned (.int .i64 (levelM m x)) ∧ Below wr.heap.size wr w' from ⟨h.1, below_then hb h.2 hb.size⟩))
      have HR := Lib.hid (fun W (hb : Below wr.heap.size wr W) => (Reason_any (HTW.out W hb) OK.out x).mono fun e w' h => (show e = .returned (.int .i64 (reasonM m x)) ∧ Below wr.heap.size wr w' from ⟨h.1, below_then hb h.2 hb.size⟩))
      have HP := Lib.hid (fun W (hb : Below wr.heap.size wr W) => (Place_any (HTW.out W hb) OK.out x).mono fun e w' h => (show e = .returned (.int .i64 (placeM m x)) ∧ Below wr.heap.size wr w' from ⟨h.1, below_then hb h.2 hb.size⟩))
      have HV := Lib.hid (fun (l : Int) (h0 : -2147483648 < l) (h1 : l ≤ 2147483647) W (hb : Below wr.heap.size wr W) => (Value_any (HTW.out W hb) OK.out l (by omega) h1).mono fun e w' h => (show e = .returned (.int .i64 (valM m l)) ∧ Below wr.heap.size wr w' from ⟨h.1, below_then hb h.2 hb.size⟩))
      have HRV := Lib.hid (fun (l : Int) (h0 : -2147483648 < l) (h1 : l ≤ 2147483647) W (hb : Below wr.heap.size wr W) => (rvalue_any (HDW.out W hb) R.out.rel.dok l).mono fun e w' h => (show e = .returned (.int .i64 (valM m l)) ∧ w' = W from ⟨by rw [← R.out.rel.valD h0 h1]; exact h.1, h.2⟩))
      have e1 : IntKind.i32.wrap x = x := IntWalk.i32_in _ (by omega)
      have e2 : IntKind.i32.wrap (-x) = -x := IntWalk.i32_in _ (by omega)
      generalize levelM m x = lx at *
      generalize reasonM m x = rx at *
      generalize placeM m x = px at *
      go_wp2_with fail
      refine HOF.out.mono ?_
      rintro e v1 ⟨rfl, hb1⟩
      have HV1 := Lib.hid hb1
      clear hb1
      go_wp2_with fail
      refine (HL.out _ HV1.out).mono ?_
      rintro e v2 ⟨rfl, hb2⟩
      have HV2 := Lib.hid hb2
      clear hb2
      go_wp2_with fail
      refine (HR.out _ HV2.out).mono ?_
      rintro e v3 ⟨rfl, hb3⟩
      have HV3 := Lib.hid hb3
      clear hb3
      go_wp2_with fail
      refine (HP.out _ HV3.out).mono ?_
      rintro e v4 ⟨rfl, hb4⟩
      have HV4 := Lib.hid hb4
      clear hb4
      go_wp2_with fail
      refine (HV.out x (by omega) (by omega) _ HV4.out).mono ?_
      rintro e v5 ⟨rfl, hb5⟩
      have HV5 := Lib.hid hb5
      clear hb5
      go_wp2_with fail
      refine (HRV.out x (by omega) (by omega) _ HV5.out).mono ?_
      rintro e v6 ⟨rfl, rfl⟩
      go_wp2_with fail
      refine (HV.out (-x) (by omega) (by omega) _ HV5.out).mono ?_
      rintro e v7 ⟨rfl, hb7⟩
      have HV7 := Lib.hid hb7
      clear hb7
      go_wp2_with fail
      refine (HRV.out (-x) (by omega) (by omega) _ HV7.out).mono ?_
      rintro e v8 ⟨rfl, rfl⟩
      have HEND := Lib.hid (below_then HB.out HV7.out HB.out.size)
      clear HOF HTW HDW HL HR HP HV HRV HV1 HV2 HV3 HV4 HV5 HV7
      go_wp2
      go_roundw
      case rel => exact ⟨x + 1, by omega, by omega, rfl, rfl, HEND.out⟩
      case measure => simp [intOf]; omega
    · obtain ⟨hp1, hp2, hp3⟩ := HLB9.out wr HB.out
      have HP := Lib.hid (show ∃ (xs : List Int) (ys : List Bool), xs.length = L ∧ ys.length = ML ∧ App.Own wr w.heap.size 30 A1 L c1 (LI xs) ∧ App.Own wr w.heap.size 4 A2 ML c2 (ys.map Value.bool) ∧ Below w.heap.size w wr from ⟨_, _, HLL.out, HMM.out, hp1, hp2, hp3⟩)
      have hLb : L ≤ 1000000 := HLEN.out
      have hMb : ML ≤ 1048576 := HML.out
      clear hp1 hp2 hp3 HB HLB9
      go_wp2_with fail
      go_loopw [15] (fun i wr => ∃ (k : Nat) (xs : List Int) (ys : List Bool), k ≤ L ∧ i = .int .i64 k ∧ xs.length = L ∧ ys.length = ML ∧ App.Own wr w.heap.size 30 A1 L c1 (LI xs) ∧ App.Own wr w.heap.size 4 A2 ML c2 (ys.map Value.bool) ∧ Below w.heap.size w wr) (fun i _ => L - (intOf i).toNat)
      case atStart => obtain ⟨xs, ys, a, b, c, d, e⟩ := HP.out; exact ⟨0, xs, ys, Nat.zero_le _, rfl, a, b, c, d, e⟩
      case round =>
        clear HP
        obtain ⟨k, xs, ys, hk, rfl, hx, hy, ho1, ho2, hb⟩ := hrel
        have HB := Lib.hid hb
        have HX := Lib.hid ho1
        have HY := Lib.hid ho2
        have HXL := Lib.hid hx
        have HYL := Lib.hid hy
        clear hb hx hy ho2
        by_cases hkl : k < L
        · obtain ⟨g1, e1, hbg, hrow⟩ := ho1.row (by omega)
          subst e1
          have hc : wr.cell? ⟨g1, k, none⟩ = some (.int .i32 (xs.getD k 0)) := hrow.cell (ints_at (by rw [HXL.out]; exact hkl))
          have hf : wr.frozen? ⟨g1, k, none⟩ = false := hrow.frozen _
          have HNX := Lib.hid (fun j => (show App.Own ((wr.setCell ⟨g1, k, none⟩ (.int .i32 99)).drewN j) w.heap.size 30 (some ⟨g1, 0, none⟩) L c1 (LI (xs.set k 99)) ∧ App.Own ((wr.setCell ⟨g1, k, none⟩ (.int .i32 99)).drewN j) w.heap.size 4 A2 ML c2 (ys.map Value.bool) ∧ Below w.heap.size w ((wr.setCell ⟨g1, k, none⟩ (.int .i32 99)).drewN j) from by
            have hm : Mem.Mod (fun i => i = g1) wr (wr.setCell ⟨g1, k, none⟩ (.int .i32 99)) := (Mem.Mod.refl (fun i => i = g1) wr).setCell (p := ⟨g1, k, none⟩) (.inl rfl) _
            refine ⟨?_, (HY.out.mod hm (fun i _ e hi => by
              subst hi
              exact Own.ne_own HX.out HY.out (by decide) rfl e)).drewN j, belowN (HB.out.setCell (p := ⟨g1, k, none⟩) hbg _) j⟩
            have := HX.out.set_ k hkl (.int .i32 99)
            unfold LI at this ⊢
            rw [List.map_set]
            exact this.drewN j))
          clear ho1 hrow
          go_wp2
          go_roundw
          case rel => exact ⟨k + 1, _, ys, by omega, by go_num, by rw [List.length_set]; exact HXL.out, HYL.out, (HNX.out 0).1, (HNX.out 0).2.1, (HNX.out 0).2.2⟩
          case measure => simp [intOf]; omega
        · clear ho1
          go_wp2_with fail
          go_loopw [16] (fun i wr => ∃ (k : Nat) (ys : List Bool), k ≤ ML ∧ i = .int .i64 k ∧ ys.length = ML ∧ App.Own wr w.heap.size 4 A2 ML c2 (ys.map Value.bool) ∧ Below w.heap.size w wr) (fun i _ => ML - (intOf i).toNat)
          case atStart => exact ⟨0, ys, Nat.zero_le _, rfl, HYL.out, HY.out, HB.out⟩
          case round =>
            clear HB HX HY HXL HYL
            obtain ⟨k, ys, hk, rfl, hy, ho2, hb⟩ := hrel
            have HB := Lib.hid hb
            have HY := Lib.hid ho2
            have HYL := Lib.hid hy
            clear hb hy
            by_cases hkl : k < ML
            · obtain ⟨g1, e1, hbg, hrow⟩ := ho2.row (by omega)
              subst e1
              have hc : wr.cell? ⟨g1, k, none⟩ = some (.bool (ys.getD k false)) := hrow.cell (bools_at (by rw [HYL.out]; exact hkl))
              have hf : wr.frozen? ⟨g1, k, none⟩ = false := hrow.frozen _
              generalize ys.getD k false = b at *
              have HNX := Lib.hid (fun (x : Bool) j => (show App.Own ((wr.setCell ⟨g1, k, none⟩ (.bool x)).drewN j) w.heap.size 4 (some ⟨g1, 0, none⟩) ML c2 ((ys.set k x).map Value.bool) ∧ Below w.heap.size w ((wr.setCell ⟨g1, k, none⟩ (.bool x)).drewN j) from by
                refine ⟨?_, belowN (HB.out.setCell (p := ⟨g1, k, none⟩) hbg _) j⟩
                have := HY.out.set_ k hkl (.bool x)
                rw [List.map_set]
                exact this.drewN j))
              have hki : (k : Int) < (ML : Int) := by omega
              have hk0 : (0 : Int) ≤ (k : Int) := Int.natCast_nonneg _
              clear ho2 hrow
              go_wp2
              go_roundw
              case rel => exact ⟨k + 1, _, by omega, by go_num, by rw [List.length_set]; exact HYL.out, (HNX.out _ 0).1, (HNX.out _ 0).2⟩
              case measure => simp [intOf]; omega
            · clear ho2 HY
              have HV := Lib.hid (show Calls Try.prog 14 #[.pointer (some ⟨gt, 0, none⟩), .int .i32 (-2147483648)] wr fun e w' => e = .returned (.int .i64 0) ∧ Below wr.heap.size wr w' from by
                have := Value_any (HT.out wr HB.out) OK.out (-2147483648) (by decide) (by decide)
                have hz : valM m (-2147483648) = 0 := by
                  unfold valM hasM
                  rw [show varI (-2147483648) = 2147483648 by decide, decide_eq_false (show ¬ (2147483648 : Int) ≤ (m.N : Int) by have := OK.out.N; omega)]
                  simp
                rwa [hz] at this)
              have HL := Lib.hid (fun W (hb : Below wr.heap.size wr W) => (show Calls Try.prog 16 #[.pointer (some ⟨gt, 0, none⟩), .int .i64 4611686018427387904] W fun e w' => e = .returned (.int .i64 (-1)) ∧ Below W.heap.size W w' from by
                have := Level_any (HT.out W (below_then HB.out hb HB.out.size)) OK.out 4611686018427387904
                have hz : levelM m 4611686018427387904 = -1 := by
                  unfold levelM hasM
                  rw [decide_eq_false (show ¬ (4611686018427387904 : Int) ≤ (m.N : Int) by have := OK.out.N; omega)]
                  simp
                rwa [hz] at this))
              go_wp2_with fail
              refine HV.out.mono ?_
              rintro e v1 ⟨rfl, hb1⟩
              have HV1 := Lib.hid hb1
              clear hb1
              go_wp2_with fail
              refine (HL.out _ HV1.out).mono ?_
              rintro e v2 ⟨rfl, hb2⟩
              have HEND := Lib.hid (below_then HB.out (below_then HV1.out hb2 HV1.out.size) HB.out.size)
              clear hb2
              go_wp2
              go_ret
              exact ⟨rfl, HEND.out⟩
end
end Go.Proofs.Ytbbpebfgdcidjaa.Ta
