/- The statement's size; CnfRights: the walk. Condition: the memory. -/
import Derived.Test.YtbgfijnadfeleaaLb
import Derived.Test.YtbgfijnadfeleaaLt
import Derived.Test.YtbgfijnadfeleaaTrS
namespace Go.Proofs.Ytbgfijnadfeleaa.La
open Go.RowKit Go.Proofs.Ytbgfijnadfeleaa.Mem Go.Proofs.Ytbgfijnadfeleaa.Sl Go.Proofs.Ytbgfijnadfeleaa.Cl Go.Proofs.Ytbgfijnadfeleaa.App Go.Proofs.Ytbgfijnadfeleaa.Cm Go.Shelf
open Go.Proofs.Ytbgfijnadfeleaa.FnL (Pred enc_at below_then)
open Go.Proofs.Ytbgfijnadfeleaa.Lt (Later wp_region_later)
open Go.Proofs.Ytbgfijnadfeleaa.Tr (rightE Right_any rRight_any)
set_option linter.unusedVariables false

theorem size_any {B : Nat} {w : World} (hB : B ≤ w.heap.size) (N : Int) (ca : Option Addr) (cn cc : Nat) (cs : List CV) (hcs : ClsOk B w ca cn cs) :
    Calls Try.prog 24 #[.agg #[.int .i64 N, .slice ca cn cc]] w fun e w' => (∃ v, e = .returned (.int .i64 v)) ∧ Below w.heap.size w w' := by
  have HS := Lib.hid hB
  have HCS := Lib.hid hcs
  have HL := Lib.hid hcs.ln
  have hmx := hcs.mx
  clear hB hcs
  go_enter Try.func24, Try.ntmps24
  go_upto_region 1 with (fail)
  obtain ⟨W0, hW0⟩ : ∃ W0, W0 = w.alloc (.cells #[.int .i64 N, .slice ca cn cc] 41) := ⟨_, rfl⟩
  rw [← hW0]
  have HB0 := Lib.hid (show Below w.heap.size w W0 from hW0 ▸ ((Below.refl _ w).alloc (Nat.le_refl _) _))
  have K0 := Lib.hid (show Blk W0 w.heap.size 41 #[.int .i64 N, .slice ca cn cc] from hW0 ▸ Blk.new w _ _)
  clear hW0
  have q2 : W0.cell? ⟨w.heap.size, 1, none⟩ = some (.slice ca cn cc) := K0.out.cell 1
  go_wp2_with fail
  go_loop [3, 4] (fun c i => ∃ (k : Nat) (v : Int), k ≤ cn ∧ i = .int .i64 k ∧ c = .int .i64 v) (fun _ i => cn - (intOf i).toNat)
  case atStart => exact ⟨0, _, Nat.zero_le _, rfl, rfl⟩
  case round =>
    obtain ⟨k, v, hk, rfl, rfl⟩ := hrel
    by_cases hlt : k < cn
    · by_cases hv : v ≤ 3000
      · have hkl : k < cs.length := by rw [← HL.out]; exact hlt
        obtain ⟨b, off, ha, _, hc⟩ := RdV.at_ ((HCS.out.below (HB0.out.mono HS.out)).rd.rd (Nat.le_trans HS.out HB0.out.size)) (enc_at (enc := CV.v) hkl)
        subst ha
        generalize cs[k]'hkl = x at *
        clear hkl
        obtain ⟨xa, xn, xc, xl⟩ := x
        dsimp only [CV.v] at hc
        obtain ⟨u, e1⟩ : ∃ u, IntKind.i64.wrap (v + (xn : Int)) = u := ⟨_, rfl⟩
        go_wp2
        go_round
        case rel => exact ⟨k + 1, u, by omega, by go_num, rfl⟩
        case measure => simp [intOf]; omega
      · go_wp2
        go_ret
        exact ⟨⟨_, rfl⟩, HB0.out⟩
    · go_wp2
      go_ret
      exact ⟨⟨_, rfl⟩, HB0.out⟩
theorem rights_any {B : Nat} {w : World} (hB : B ≤ w.heap.size) (N : Int) (ca : Option Addr) (cn cc : Nat) (cs : List CV) (hcs : ClsOk B w ca cn cs) (a : Option Addr) (mn mc : Nat) (m : List Bool) (hm : MdOk B w a mn m) :
    Calls Try.prog 7 #[.agg #[.int .i64 N, .slice ca cn cc], .slice a mn mc] w fun e w' => e = .returned (.bool true) ∧ Below w.heap.size w w' := by
  have HCS := Lib.hid hcs
  have HS := Lib.hid hB
  have hmx := hm.mx
  have HZ := Lib.hid (fun W (hb : Below w.heap.size w W) => size_any (w := W) (Nat.le_trans hB hb.size) N ca cn cc cs (hcs.below (hb.mono hB)))
  have HR1 := Lib.hid (fun W (hb : Below w.heap.size w W) => Right_any (w := W) (Nat.le_trans hB hb.size) N ca cn cc cs (hcs.below (hb.mono hB)))
  have HR2 := Lib.hid (fun W (hb : Below w.heap.size w W) => rRight_any (w := W) (Nat.le_trans hB hb.size) N ca cn cc cs (hcs.below (hb.mono hB)))
  have HH1 := Lib.hid (fun W (hb : Below w.heap.size w W) => Holds_any (c := mc) (cc := cc) (vars := N) (w := W) (Nat.le_trans hB hb.size) (hm.below (hb.mono hB)) (hcs.below (hb.mono hB)))
  have HH2 := Lib.hid (fun W (hb : Below w.heap.size w W) => rHolds_any (c := mc) (cc := cc) (vars := N) (w := W) (Nat.le_trans hB hb.size) (hm.below (hb.mono hB)) (hcs.below (hb.mono hB)))
  clear hcs hB hm
  generalize rightE N cs = re at *
  generalize holdsB m cs = hh at *
  go_enter Try.func7, Try.ntmps7
  go_upto_region 1 with (fail)
  obtain ⟨W0, hW0⟩ : ∃ W0, W0 = w.alloc (.cells #[.int .i64 N, .slice ca cn cc] 41) := ⟨_, rfl⟩
  rw [← hW0]
  have HB0 := Lib.hid (show Below w.heap.size w W0 from hW0 ▸ ((Below.refl _ w).alloc (Nat.le_refl _) _))
  have K0 := Lib.hid (show Blk W0 w.heap.size 41 #[.int .i64 N, .slice ca cn cc] from hW0 ▸ Blk.new w _ _)
  clear hW0
  have q1 : W0.cell? ⟨w.heap.size, 0, none⟩ = some (.int .i64 N) := K0.out.cell 0
  have q2 : W0.cell? ⟨w.heap.size, 1, none⟩ = some (.slice ca cn cc) := K0.out.cell 1
  have HC := Lib.hid (HZ.out W0 HB0.out)
  go_wp2_with fail
  refine HC.out.mono ?_
  rintro e w1 ⟨⟨v, rfl⟩, hb1⟩
  have HB1 := Lib.hid (below_then HB0.out hb1 HB0.out.size)
  have K1 := Lib.hid (K0.out.below hb1)
  clear hb1 q1 q2 HC K0
  by_cases p1 : 3000 < v
  · go_wp2
    go_ret
    exact ⟨rfl, HB1.out⟩
  · by_cases p2 : 3000 < mn
    · have p3 : (3000 : Int) < mn := by omega
      go_wp2
      go_ret
      exact ⟨rfl, HB1.out⟩
    · have p3 : ¬ (3000 : Int) < mn := by omega
      go_upto_region 3 with (fail)
      have L1 : ∀ p : Later w1, p.w'.cell? ⟨w.heap.size, 0, none⟩ = some (.int .i64 N) := fun p => (K1.out.below p.h).cell 0
      have L2 : ∀ p : Later w1, p.w'.cell? ⟨w.heap.size, 1, none⟩ = some (.slice ca cn cc) := fun p => (K1.out.below p.h).cell 1
      have HQ := Lib.hid (fun W (hb : Below w1.heap.size w1 W) => below_then HB1.out hb HB1.out.size)
      have M1 := Lib.hid (Later.meet (w := w1) fun W hb => HR1.out W (HQ.out W hb))
      have M2 := Lib.hid (Later.meet (w := w1) fun W hb => HR2.out W (HQ.out W hb))
      have M3 := Lib.hid (Later.meet (w := w1) fun W hb => HH1.out W (HQ.out W hb))
      have M4 := Lib.hid (Later.meet (w := w1) fun W hb => HH2.out W (HQ.out W hb))
      have M5 := Lib.hid (Later.meet (w := w1) fun W hb => works_any W)
      refine wp_region_later (by kernel_rfl) (by kernel_rfl) ?_
      repeat (quiet_step (first
        | (go_at_call 25; exact M1.out _)
        | (go_at_call 26; exact M2.out _)
        | (go_at_call 27; exact M3.out _)
        | (go_at_call 28; exact M4.out _)
        | (go_at_call 13; exact M5.out _)))
      refine wpQuiet_nil ?_
      intro wq hw'
      obtain ⟨p, hp⟩ := hw'
      have hq : Below w1.heap.size w1 wq := hp ▸ p.h
      have HW := Lib.hid (HQ.out wq hq)
      clear L1 L2 hq hp p
      go_wp2
      go_ret
      exact ⟨rfl, HW.out⟩
end Go.Proofs.Ytbgfijnadfeleaa.La
