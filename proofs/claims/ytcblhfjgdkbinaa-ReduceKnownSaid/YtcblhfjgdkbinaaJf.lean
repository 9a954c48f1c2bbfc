/- insertion sort over rows of records. Conditions: the memory; what compare answers. -/
import Derived.Test.YtcblhfjgdkbinaaJe
import Derived.Test.YtcblhfjgdkbinaaLtB
namespace Go.Proofs.Ytcblhfjgdkbinaa.Re
open Go.RowKit Go.Proofs.Ytcblhfjgdkbinaa.Mem Go.Proofs.Ytcblhfjgdkbinaa.Sl Go.Shelf Go.Sort
open Go.Proofs.Ytcblhfjgdkbinaa.FnL (enc_at below_then)
open Go.Proofs.Ytcblhfjgdkbinaa.Lt (Later wp_region_later)
set_option linter.unusedVariables false

/-- What is asked of compare. -/
def CmpOk (P : Program) : Prop := (∀ args w, (callFunc 19 args).run P w = .ok (.enter 19 args) w) ∧
  ∀ (x y : Rc) (W : World), Calls P 19 #[.agg (encR x).toArray, .agg (encR y).toArray] W fun e w' => e = .returned (.int .i64 (cfR x y)) ∧ Below W.heap.size W w'
section
variable {P : Program} {wr : World} {g q : Nat} {d : Array Rc}
theorem later_load (HQ : Hid (q = 5)) (h : HK wr g d) {i : Nat} (hi : i < d.size) (p : Later wr) : Sem.run P (loadCellsFrom ⟨g, i * q, none⟩ 0 q #[]) p.w' = .ok (encR d[i]!).toArray p.w' := by
  rw [HQ.out]; exact (h.below p.h).load P hi
theorem later_cmp (H : CmpOk P) (x y : Rc) (p : Later wr) : Calls P 19 #[.agg (encR x).toArray, .agg (encR y).toArray] p.w' fun e w'' => e = .returned (.int .i64 (cfR x y)) ∧ ∃ q : Later wr, w'' = q.w' :=
  Later.meet (fun W hb => H.2 x y W) p
end
set_option maxRecDepth 100000 in
set_option maxHeartbeats 4000000 in
theorem insertion_gen {P : Program} {q : Nat} (L : PK P q) (hq : q = 5) (F : P.funcs[29]? = some Try.f29) (hcmp : CmpOk P) (d : Array Rc) (N c g a b : Nat) {w : World} (h : HK w g d) (hN : N = d.size) (hab : a ≤ b) (hb : b ≤ N) (hm : N ≤ 1000000) :
    Calls P 29 #[.slice (some ⟨g, 0, none⟩) N c, .int .i64 a, .int .i64 b, cmpV] w
      (Pst w g a b d fun d' => d' = insertionSort (ltOf cfR) d a b) := by
  have mixed := L.mixed; have t0 := L.t0; have a0 := L.a0; have z0 := L.z0; have v0 := L.v0; have t3 := L.t3; have a3 := L.a3; have z3 := L.z3; have v3 := L.v3; have t4 := L.t4; have a4 := L.a4; have z4 := L.z4; have v4 := L.v4; have t22 := L.t22; have a22 := L.a22; have z22 := L.z22; have v22 := L.v22; have aE := L.aE; have zE := L.zE
  have u22 := run_underlying L.t22
  clear L
  have HQ := Lib.hid hq
  clear hq
  have H := Lib.hid h
  have HN := Lib.hid hN
  have HC := Lib.hid hcmp
  have eg := hcmp.1
  clear h hN hcmp
  go_enter F, Try.ntmps29
  go_wp2
  go_loopw [8] (fun vi wr => ∃ (i : Nat) (dk : Array Rc), vi = .int .i64 i ∧ a < i ∧ i ≤ b + 1 ∧ HK wr g dk ∧ Mod (fun j => j = g) w wr ∧ PermIn a b d dk ∧ Hid (insOuter (ltOf cfR) a b i dk = insOuter (ltOf cfR) a b (a + 1) d)) (fun vi _ => b + 1 - (intOf vi).toNat)
  case atStart => exact ⟨a + 1, d, by go_num, by omega, by omega, H.out, Mod.refl _ _, permIn_refl _ _ _, rfl⟩
  case round =>
    obtain ⟨i, dk, rfl, hai, hib, hH, hM, hP, HO⟩ := hrel
    have HH := Lib.hid hH
    have HM := Lib.hid hM
    have HP := Lib.hid hP
    clear hH hM hP
    by_cases hlt : i < b
    · have hltz : (i : Int) < (b : Int) := by omega
      go_wp2
      go_loopw [9] (fun vj wr2 => ∃ (j : Nat) (dj : Array Rc), vj = .int .i64 j ∧ a ≤ j ∧ j ≤ i ∧ HK wr2 g dj ∧ Mod (fun j => j = g) w wr2 ∧ PermIn a b d dj ∧ Hid (insInner (ltOf cfR) a j dj = insInner (ltOf cfR) a i dk)) (fun vj _ => (intOf vj).toNat)
      case atStart => exact ⟨i, dk, rfl, by omega, Nat.le_refl _, HH.out, HM.out, HP.out, rfl⟩
      case round =>
        clear HH HM HP
        obtain ⟨j, dj, rfl, haj, hji, hH, hM, hP, HI⟩ := hrel
        have HH := Lib.hid hH
        have HM := Lib.hid hM
        have HP := Lib.hid hP
        have HS := Lib.hid (HN.out.trans hP.1.symm)
        clear hH hM hP
        have OUT := Lib.hid (show (j ≤ a ∨ ltOf cfR dj[j]! dj[j - 1]! = false) → Hid (insOuter (ltOf cfR) a b (i + 1) dj = insOuter (ltOf cfR) a b (a + 1) d) from fun hs => by
          show _ = _
          rw [← HO.out, insOuter_go _ _ _ _ _ hlt, ← HI.out, insInner_stop _ _ _ _ hs])
        by_cases hja : a < j
        · have hjaz : (a : Int) < (j : Int) := by omega
          obtain ⟨jp, rfl⟩ : ∃ jp, j = jp + 1 := ⟨j - 1, by omega⟩
          have hwp : IntKind.i64.wrap (jp : Int) = (jp : Int) := by rw [IntKind.wrap_i64]; omega
          have jz : (jp : Int) + 1 < (N : Int) := by omega
          have jz1 : (jp : Int) < (N : Int) := by omega
          have hjaz' : (a : Int) < (jp : Int) + 1 := by omega
          have p0 : (0 : Int) ≤ (jp : Int) + 1 := by omega
          have e0 : ((jp : Int) + 1).toNat = jp + 1 := by omega
          have i1 : jp + 1 < dj.size := by have := HS.out; omega
          have i2 : jp < dj.size := by have := HS.out; omega
          have L1 := later_load (P := P) HQ HH.out i1
          have L2 := later_load (P := P) HQ HH.out i2
          have M := Lib.hid (later_cmp (wr := wr) HC.out dj[jp + 1]! dj[jp]!)
          have HSW := Lib.hid (fun W (hb : Below wr.heap.size wr W) => HK.swap P (HH.out.below hb).drew i1 i2)
          have HL1 := Lib.hid (fun W (hb : Below wr.heap.size wr W) => (HH.out.below hb).drew.load P i1)
          have HL2 := Lib.hid (fun W (hb : Below wr.heap.size wr W) => (HH.out.below hb).drew.load P i2)
          have HLT := Lib.hid (show ltOf cfR dj[jp + 1]! dj[jp]! = decide (cfR dj[jp + 1]! dj[jp]! < 0) from rfl)
          clear i1 i2
          generalize cfR dj[jp + 1]! dj[jp]! = v at *
          have e1 : (encR dj[jp + 1]!).length = q := by rw [HQ.out]; rfl
          have e2 : (encR dj[jp]!).length = q := by rw [HQ.out]; rfl
          rw [← HQ.out] at HSW HL1 HL2
          generalize encR dj[jp + 1]! = cJ at *
          generalize encR dj[jp]! = cP at *
          by_cases hv : v < 0
          · go_wp2_with fail
            refine wp_region_later mixed (by kernel_rfl) ?_
            repeat (quiet_step (first | (go_at_fn 19; exact M.out _)))
            refine wpQuiet_nil ?_
            intro wq hw'
            obtain ⟨p, hp⟩ := hw'
            have HBQ := Lib.hid (show Below wr.heap.size wr wq from hp ▸ p.h)
            clear L1 L2 hp p
            go_wp2_with fail
            obtain ⟨s1, s2, h3, h4⟩ := HSW.out wq HBQ.out
            have l1 := HL1.out wq HBQ.out
            have l2 := HL2.out wq HBQ.out
            have H3 := Lib.hid h3
            have H4 := Lib.hid (HM.out.then_ (((Mod.none_ HBQ.out (fun j => j = g)).drew).then_ h4))
            have HIN := Lib.hid (show insInner (ltOf cfR) a jp (swp dj (jp + 1) jp) = insInner (ltOf cfR) a i dk from by
              have := insInner_go (ltOf cfR) a (jp + 1) dj hja (by simp only [Nat.add_sub_cancel]; rw [HLT.out]; exact decide_eq_true hv)
              simp only [Nat.add_sub_cancel] at this
              rw [← HI.out, this])
            clear h3 h4 HSW HL1 HL2 M HLT OUT
            go_big_region_o
            all_goals go_wp2
            go_roundw
            case rel => exact ⟨jp, swp dj (jp + 1) jp, by first | rfl | go_num | (congr 1; omega), by omega, by omega, H3.out, H4.out, permIn_trans _ _ _ _ _ HP.out (swp_permIn _ _ _ _ _ (by omega) (by omega) (by omega) (by omega) (by have := HS.out; omega)), HIN.out⟩
            case measure => simp [intOf]
          · have HO2 := Lib.hid (OUT.out (.inr (by simp only [Nat.add_sub_cancel]; rw [HLT.out]; exact decide_eq_false hv)))
            go_wp2_with fail
            refine wp_region_later mixed (by kernel_rfl) ?_
            repeat (quiet_step (first | (go_at_fn 19; exact M.out _)))
            refine wpQuiet_nil ?_
            intro wq hw'
            obtain ⟨p, hp⟩ := hw'
            have HBQ := Lib.hid (show Below wr.heap.size wr wq from hp ▸ p.h)
            clear L1 L2 hp p
            have HH2 := Lib.hid (HH.out.below HBQ.out)
            have HM2 := Lib.hid (HM.out.then_ (Mod.none_ HBQ.out (fun j => j = g)))
            clear HSW HL1 HL2 M HLT OUT
            go_wp2
            go_roundw
            case rel => exact ⟨i + 1, dj, by go_num, by omega, by omega, HH2.out, HM2.out, HP.out, HO2.out.out⟩
            case measure => simp [intOf]; omega
        · have hjaz : decide ((j : Int) > (a : Int)) = false := decide_eq_false (by omega)
          have hjaz' : ¬ (a : Int) < (j : Int) := by omega
          have HO2 := Lib.hid (OUT.out (.inl (by omega)))
          go_wp2_with fail
          have HH2 := Lib.hid HH.out.drew
          have HM2 := Lib.hid HM.out.drew
          clear OUT
          go_big_region_o
          all_goals go_wp2
          go_roundw
          case rel => exact ⟨i + 1, dj, by go_num, by omega, by omega, HH2.out, HM2.out, HP.out, HO2.out.out⟩
          case measure => simp [intOf]; omega
    · have hltz : ¬ (i : Int) < (b : Int) := by omega
      have HF := Lib.hid (show dk = insertionSort (ltOf cfR) d a b by unfold insertionSort; rw [← HO.out, insOuter_stop _ _ _ _ _ hlt])
      go_wp2
      go_end0
      exact ⟨rfl, HM.out, dk, HH.out, HP.out, HF.out⟩
end Go.Proofs.Ytcblhfjgdkbinaa.Re
