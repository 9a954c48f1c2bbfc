/- threshingkit's Small, Size, Pick, and layer 8's right: the walks. -/
import Derived.Test.YtfpohiflpemkjaaEx
import Derived.Test.YtfpohiflpemkjaaClH
namespace Go.Proofs.Ytfpohiflpemkjaa.Ex
open Go.RowKit Go.Proofs.Ytfpohiflpemkjaa.Mem Go.Proofs.Ytfpohiflpemkjaa.Sl Go.Proofs.Ytfpohiflpemkjaa.Cl Go.Shelf
open Go.Proofs.Ytfpohiflpemkjaa.FnL (Pred enc_at below_then)
set_option linter.unusedVariables false

def In64 (e : Ending) : Prop := ∃ x : Int, e = .returned (.int .i64 x)
theorem size_any {B : Nat} {w : World} (hB : B ≤ w.heap.size) (vars : Int) (ca : Option Addr) (cn cc : Nat) (cs : List CV) (hcs : ClsOk B w ca cn cs) (top : Int) :
    Calls Try.prog 41 #[.agg #[.int .i64 vars, .slice ca cn cc], .int .i64 top] w fun e w' => In64 e ∧ Below w.heap.size w w' := by
  have HS := Lib.hid hB
  have HCS := Lib.hid hcs
  have HL := Lib.hid hcs.ln
  have hmx := hcs.mx
  clear hB hcs
  go_enter Try.func41, Try.ntmps41
  go_upto_region 1 with (fail)
  obtain ⟨W0, hW0⟩ : ∃ W0, W0 = w.alloc (.cells #[.int .i64 vars, .slice ca cn cc] 34) := ⟨_, rfl⟩
  rw [← hW0]
  have HB0 := Lib.hid (show Below w.heap.size w W0 from hW0 ▸ ((Below.refl _ w).alloc (Nat.le_refl _) _))
  have HW0 := Lib.hid (show W0.heap.size = w.heap.size + 1 by rw [hW0]; simp)
  have K0 := Lib.hid (show Blk W0 w.heap.size 34 #[.int .i64 vars, .slice ca cn cc] from hW0 ▸ Blk.new w _ _)
  clear hW0
  have q2 : W0.cell? ⟨w.heap.size, 1, none⟩ = some (.slice ca cn cc) := K0.out.cell 1
  go_wp2_with fail
  clear q2
  go_loopw [5, 6] (fun s i wr => ∃ (k : Nat) (x : Int), k ≤ cn ∧ i = .int .i64 k ∧ s = .int .i64 x ∧ W0 = wr) (fun _ i _ => cn - (intOf i).toNat)
  case atStart => exact ⟨0, _, Nat.zero_le _, rfl, rfl, rfl⟩
  case round =>
    obtain ⟨k, x, hk, rfl, rfl, rfl⟩ := hrel
    have q2 : W0.cell? ⟨w.heap.size, 1, none⟩ = some (.slice ca cn cc) := K0.out.cell 1
    by_cases hlt : k < cn
    · have hkl : k < cs.length := by rw [← HL.out]; exact hlt
      obtain ⟨b, off, ha, _, hc⟩ := RdV.at_ ((HCS.out.below (HB0.out.mono HS.out)).rd.rd (Nat.le_trans HS.out HB0.out.size)) (enc_at (enc := CV.v) hkl)
      subst ha
      generalize cs[k]'hkl = y at *
      obtain ⟨A1, n1, c1, l1⟩ := y
      dsimp only [CV.v] at hc
      clear hkl
      by_cases ht : x ≤ top
      · go_wp2
        go_roundw
        case rel => exact ⟨k + 1, _, by omega, by go_num, rfl, trivial⟩
        case measure => simp [intOf]; omega
      · go_wp2
        all_goals go_ret
        all_goals exact ⟨⟨_, rfl⟩, HB0.out⟩
    · go_wp2
      all_goals go_ret
      all_goals exact ⟨⟨_, rfl⟩, HB0.out⟩
def SmallR (vars : Int) (cn : Nat) (nv nc : Int) (e : Ending) : Prop := ∃ b : Bool, e = .returned (.bool b) ∧ (b = true → vars ≤ nv ∧ (cn : Int) ≤ nc)
theorem small_any {B : Nat} {w : World} (hB : B ≤ w.heap.size) (vars : Int) (ca : Option Addr) (cn cc : Nat) (cs : List CV) (hcs : ClsOk B w ca cn cs) (nv nc nl : Int) :
    Calls Try.prog 15 #[.agg #[.int .i64 vars, .slice ca cn cc], .int .i64 nv, .int .i64 nc, .int .i64 nl] w fun e w' => SmallR vars cn nv nc e ∧ Below w.heap.size w w' := by
  have HS := Lib.hid hB
  have HCS := Lib.hid hcs
  clear hB hcs
  go_enter Try.func15, Try.ntmps15
  go_upto_region 1 with (fail)
  obtain ⟨W0, hW0⟩ : ∃ W0, W0 = w.alloc (.cells #[.int .i64 vars, .slice ca cn cc] 34) := ⟨_, rfl⟩
  rw [← hW0]
  have HB0 := Lib.hid (show Below w.heap.size w W0 from hW0 ▸ ((Below.refl _ w).alloc (Nat.le_refl _) _))
  have K0 := Lib.hid (show Blk W0 w.heap.size 34 #[.int .i64 vars, .slice ca cn cc] from hW0 ▸ Blk.new w _ _)
  clear hW0
  have q1 : W0.cell? ⟨w.heap.size, 0, none⟩ = some (.int .i64 vars) := K0.out.cell 0
  have q2 : W0.cell? ⟨w.heap.size, 1, none⟩ = some (.slice ca cn cc) := K0.out.cell 1
  have HC := Lib.hid fun top => size_any (Nat.le_trans HS.out HB0.out.size) vars ca cn cc cs (HCS.out.below (HB0.out.mono HS.out)) top
  by_cases h1 : vars ≤ nv
  · by_cases h2 : (cn : Int) ≤ nc
    · have HE := Lib.hid (show vars ≤ nv ∧ (cn : Int) ≤ nc from ⟨h1, h2⟩)
      go_wp2_with fail
      refine (HC.out _).mono ?_
      rintro e w1 ⟨⟨x, rfl⟩, hb1⟩
      have HB1 := Lib.hid (below_then HB0.out hb1 HB0.out.size)
      clear hb1 q1 q2
      go_wp2
      go_ret
      exact ⟨⟨_, rfl, fun _ => HE.out⟩, HB1.out⟩
    · go_wp2
      go_ret
      exact ⟨⟨_, rfl, fun h => by simp at h⟩, HB0.out⟩
  · go_wp2
    go_ret
    exact ⟨⟨_, rfl, fun h => by simp at h⟩, HB0.out⟩
def rightsB (N : Int) (cs : List CV) : Bool := cs.all (fun x => rightB N x.l)
theorem rights_any {B : Nat} {w : World} (hB : B ≤ w.heap.size) (ca : Option Addr) (cn cc : Nat) (cs : List CV) (hcs : ClsOk B w ca cn cs) (N : Int) :
    Calls Try.prog 16 #[.slice ca cn cc, .int .i64 N] w fun e w' => e = .returned (.bool (rightsB N cs)) ∧ w = w' := by
  have HS := Lib.hid hB
  have HCS := Lib.hid hcs
  have HL := Lib.hid hcs.ln
  have hmx := hcs.mx
  clear hB hcs
  go_enter Try.func16, Try.ntmps16
  go_wp2_with fail
  go_loopw [5] (fun i wr => ∃ k : Nat, k ≤ cn ∧ i = .int .i64 k ∧ (cs.take k).all (fun x => rightB N x.l) = true ∧ w = wr) (fun i _ => cn - (intOf i).toNat)
  case atStart => exact ⟨0, Nat.zero_le _, rfl, rfl, rfl⟩
  case round =>
    obtain ⟨k, hk, rfl, hf, rfl⟩ := hrel
    have HF := Lib.hid hf
    clear hf
    by_cases hlt : k < cn
    · have hkl : k < cs.length := by rw [← HL.out]; exact hlt
      obtain ⟨b, off, ha, _, hc⟩ := RdV.at_ (HCS.out.rd.rd HS.out) (enc_at (enc := CV.v) hkl)
      subst ha
      have HM2 := Lib.hid (show cs[k]'hkl ∈ cs from List.getElem_mem hkl)
      have HT := Lib.hid (show (cs.take (k + 1)).all (fun x => rightB N x.l) = rightB N (cs[k]'hkl).l by rw [List.take_succ_eq_append_getElem hkl, List.all_append, HF.out]; simp)
      have HA := Lib.hid (show rightB N (cs[k]'hkl).l = false → rightsB N cs = false from fun h => by
        unfold rightsB; rw [List.all_eq_false]; exact ⟨_, HM2.out, by simpa using h⟩)
      have HCL := Lib.hid (HCS.out.all _ HM2.out)
      generalize cs[k]'hkl = y at *
      obtain ⟨A1, n1, c1, l1⟩ := y
      dsimp only [CV.v] at hc
      have HLL := Lib.hid (show n1 = l1.length from HCL.out.ln)
      have hmx1 : n1 ≤ 9223372036854775807 := HCL.out.mx
      dsimp only at HT HA
      clear hkl
      go_wp2_with fail
      go_loopw [6] (fun i wr2 => ∃ j : Nat, j ≤ n1 ∧ i = .int .i64 j ∧ (l1.take j).all (fun x => !(x == 0 || decide (N < varI x))) = true ∧ w = wr2) (fun i _ => n1 - (intOf i).toNat)
      case atStart => exact ⟨0, Nat.zero_le _, rfl, rfl, rfl⟩
      case round =>
        obtain ⟨j, hj, rfl, hf2, rfl⟩ := hrel
        have HF2 := Lib.hid hf2
        clear hf2
        by_cases hlt2 : j < n1
        · have hjl : j < l1.length := by rw [← HLL.out]; exact hlt2
          obtain ⟨b2, off2, ha2, _, hc2⟩ := RdV.at_ (HCL.out.rd.rd HS.out) (enc_at (enc := Value.int .i32) hjl)
          dsimp only at ha2
          subst ha2
          have HT2 := Lib.hid (show (l1.take (j + 1)).all (fun x => !(x == 0 || decide (N < varI x))) = !(l1[j]'hjl == 0 || decide (N < varI (l1[j]'hjl))) by rw [List.take_succ_eq_append_getElem hjl, List.all_append, HF2.out]; simp)
          have HM3 := Lib.hid (show l1[j]'hjl ∈ l1 from List.getElem_mem hjl)
          have HC := Lib.hid (Var_any (l1[j]'hjl) (HCL.out.lb _ HM3.out).1 (HCL.out.lb _ HM3.out).2 w)
          have HA2 := Lib.hid (show (!(l1[j]'hjl == 0 || decide (N < varI (l1[j]'hjl)))) = false → rightB N l1 = false from fun h => by
            unfold rightB; rw [List.all_eq_false]; exact ⟨_, HM3.out, by simpa using h⟩)
          generalize l1[j]'hjl = y at *
          clear hjl
          by_cases h0 : y = 0
          · have HE := Lib.hid (HA.out (HA2.out (by rw [h0]; rfl)))
            subst h0
            go_wp2
            go_ret
            exact ⟨by rw [HE.out]; rfl, rfl⟩
          · have h0' : (y == 0) = false := by simpa using h0
            rw [h0', Bool.false_or] at HA2 HT2
            clear h0
            go_wp2_with fail
            refine HC.out.mono ?_
            rintro e w1 ⟨rfl, rfl⟩
            generalize varI y = v at *
            by_cases h1 : N < v
            · have HE := Lib.hid (HA.out (HA2.out (by rw [decide_eq_true h1]; rfl)))
              go_wp2
              go_ret
              exact ⟨by rw [HE.out]; rfl, rfl⟩
            · have HE := Lib.hid (HT2.out.trans (by rw [decide_eq_false h1]))
              go_wp2
              go_roundw
              case rel => exact ⟨j + 1, by omega, by go_num, HE.out, trivial⟩
              case measure => simp [intOf]; omega
        · have HE := Lib.hid (HT.out.trans (show rightB N l1 = true by
            have := HF2.out
            rwa [List.take_of_length_le (by rw [← HLL.out]; omega)] at this))
          clear hj
          go_wp2
          go_roundw
          case rel => exact ⟨k + 1, by omega, by go_num, HE.out, trivial⟩
          case measure => simp [intOf]; omega
    · have HE := Lib.hid (show rightsB N cs = true by
        have := HF.out
        rwa [List.take_of_length_le (by rw [← HL.out]; omega)] at this)
      go_wp2
      go_ret
      exact ⟨by rw [HE.out]; rfl, rfl⟩
def PickR (n : Nat) (e : Ending) : Prop := ∃ p : Nat, p < n ∧ e = .returned (.int .i64 p)
theorem pick_any (i : Int) (h0 : -9223372036854775808 ≤ i) (h1 : i ≤ 9223372036854775807) (n : Nat) (hn : 0 < n) (hn2 : n ≤ 1000000) (w : World) :
    Calls Try.prog 17 #[.int .i64 i, .int .i64 n] w fun e w' => PickR n e ∧ w = w' := by
  have hb1 : -(n : Int) < i.tmod n ∧ i.tmod n < n := by
    constructor
    · have := Int.lt_tmod_of_pos i (show (0 : Int) < n by omega); omega
    · exact Int.tmod_lt_of_pos i (by omega)
  obtain ⟨r, hr⟩ : ∃ r, i.tmod n = r := ⟨_, rfl⟩
  rw [hr] at hb1
  have e1 : IntKind.i64.wrap r = r := IntWalk.i64_in _ (by omega)
  have e2 : IntKind.i64.wrap (r + n) = r + n := IntWalk.i64_in _ (by omega)
  have hp : 0 ≤ (r + n).tmod n ∧ (r + n).tmod n < n := ⟨Int.tmod_nonneg _ (by omega), Int.tmod_lt_of_pos _ (by omega)⟩
  obtain ⟨p, hpp⟩ : ∃ p, (r + n).tmod n = p := ⟨_, rfl⟩
  rw [hpp] at hp
  have e3 : IntKind.i64.wrap p = p := IntWalk.i64_in _ (by omega)
  have h3 : ¬ (n : Int) ≤ 0 := by omega
  have h4 : ((n : Int) == 0) = false := by simp; omega
  have HE := Lib.hid (show PickR n (.returned (.int .i64 p)) from ⟨p.toNat, by omega, by rw [Int.toNat_of_nonneg hp.1]⟩)
  go_enter Try.func17, Try.ntmps17
  go_wp2
  go_ret
  exact ⟨HE.out, rfl⟩
end Go.Proofs.Ytfpohiflpemkjaa.Ex
