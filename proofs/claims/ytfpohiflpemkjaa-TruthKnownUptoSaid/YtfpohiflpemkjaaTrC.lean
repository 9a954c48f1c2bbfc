/- truth.clause: a clause as bits. -/
import Derived.Test.YtfpohiflpemkjaaTrS
import Derived.Laws.BitsAllLaws
namespace Go.Proofs.Ytfpohiflpemkjaa.Tr
open Go.RowKit Go.Proofs.Ytfpohiflpemkjaa.Mem Go.Proofs.Ytfpohiflpemkjaa.Sl Go.Proofs.Ytfpohiflpemkjaa.Cl Go.Shelf
open Go.Proofs.Ytfpohiflpemkjaa.FnL (Pred enc_at below_then)
set_option linter.unusedVariables false

def bitOf (x : Int) : Nat := 2 ^ ((varI x).toNat - 1)
def orLit (m : Nat × Nat) (x : Int) : Nat × Nat := if 0 < x then (m.1 ||| bitOf x, m.2) else (m.1, m.2 ||| bitOf x)
def maskOf (l : List Int) : Nat × Nat := l.foldl orLit (0, 0)
def okL (l : List Int) : Prop := ∀ x, x ∈ l → 1 ≤ varI x ∧ varI x ≤ 16
def mkV (m : Nat × Nat) : Value := .agg #[.int .u32 m.1, .int .u32 m.2]
theorem bit_lt {x : Int} (h : varI x ≤ 16) : bitOf x < 65536 := by
  unfold bitOf
  exact Nat.lt_of_lt_of_le (Nat.pow_lt_pow_right (by decide) (show (varI x).toNat - 1 < 16 by omega)) (by decide)
theorem mask_lt : ∀ (l : List Int) (m : Nat × Nat), okL l → m.1 < 65536 → m.2 < 65536 → (l.foldl orLit m).1 < 65536 ∧ (l.foldl orLit m).2 < 65536
  | [], m, _, h1, h2 => ⟨h1, h2⟩
  | x :: l, m, h, h1, h2 => by
    rw [List.foldl_cons]
    have hb := bit_lt (h x (List.mem_cons_self ..)).2
    refine mask_lt l _ (fun y hy => h y (List.mem_cons_of_mem _ hy)) ?_ ?_
    · unfold orLit; split
      · exact Nat.or_lt_two_pow (n := 16) h1 hb
      · exact h1
    · unfold orLit; split
      · exact h2
      · exact Nat.or_lt_two_pow (n := 16) h2 hb
set_option maxRecDepth 100000 in
theorem clause_any {B : Nat} {w : World} (hB : B ≤ w.heap.size) (x : CV) (hx : ClOk B w x) (hl : okL x.l) :
    Calls Try.prog 50 #[x.v] w fun e w' => e = .returned (mkV (maskOf x.l)) ∧ Below w.heap.size w w' := by
  obtain ⟨A, n, C, l⟩ := x
  have HS := Lib.hid hB
  have HX := Lib.hid hx
  have HL := Lib.hid (show n = l.length from hx.ln)
  have HOK := Lib.hid hl
  have hmx : n ≤ 9223372036854775807 := hx.mx
  clear hB hx hl
  dsimp only [CV.v]
  go_enter Try.func50, Try.ntmps50
  go_wp2_with fail
  obtain ⟨W, hW⟩ : ∃ W, W = (w.alloc (.cells #[.int .u32 0, .int .u32 0] 81)).alloc (.cells #[.int .u32 0, .int .u32 0] 81) := ⟨_, rfl⟩
  rw [← hW]
  have hs : W.heap.size = w.heap.size + 2 := by rw [hW]; simp
  have HB0 := Lib.hid (show Below w.heap.size w W from hW ▸ (((Below.refl _ w).alloc (Nat.le_refl _) _).alloc (by simp) _))
  have K0 := Lib.hid (show Blk W (w.heap.size + 1) 81 #[.int .u32 0, .int .u32 0] by rw [hW]; exact blk_here (by simp))
  have K1 := Lib.hid (show Blk W w.heap.size 81 #[.int .u32 0, .int .u32 0] by rw [hW]; exact Blk.alloc (blk_here rfl) _)
  have HWS := Lib.hid hs
  clear hW hs
  go_loopw [9] (fun i wr => ∃ k : Nat, k ≤ n ∧ i = .int .i64 k ∧ Blk wr (w.heap.size + 1) 81 #[.int .u32 (maskOf (l.take k)).1, .int .u32 (maskOf (l.take k)).2] ∧ Blk wr w.heap.size 81 #[.int .u32 0, .int .u32 0] ∧ Below w.heap.size w wr) (fun i _ => n - (intOf i).toNat)
  case atStart => exact ⟨0, Nat.zero_le _, rfl, K0.out, K1.out, HB0.out⟩
  case round =>
    obtain ⟨k, hk, rfl, hk0, hk1, hb⟩ := hrel
    have HK0 := Lib.hid hk0
    have HK1 := Lib.hid hk1
    have HB := Lib.hid hb
    clear hk0 hk1 hb K0 K1
    by_cases hlt : k < n
    · have hkl : k < l.length := by rw [← HL.out]; exact hlt
      obtain ⟨b, off, ha, _, hc⟩ := RdV.at_ ((HX.out.below (HB.out.mono HS.out)).rd.rd (Nat.le_trans HS.out HB.out.size)) (enc_at (enc := Value.int .i32) hkl)
      dsimp only at ha
      subst ha
      have HM3 := Lib.hid (show l[k]'hkl ∈ l from List.getElem_mem hkl)
      have hlb := HX.out.lb _ HM3.out
      have hv := HOK.out _ HM3.out
      have HT := Lib.hid (show maskOf (l.take (k + 1)) = orLit (maskOf (l.take k)) (l[k]'hkl) by unfold maskOf; rw [List.take_succ_eq_append_getElem hkl, List.foldl_append]; rfl)
      have hml := mask_lt (l.take k) (0, 0) (fun y hy => HOK.out y (List.mem_of_mem_take hy)) (by decide) (by decide)
      have hbl := bit_lt hv.2
      have HBT := Lib.hid (show bitOf (l[k]'hkl) = 2 ^ ((varI (l[k]'hkl)).toNat - 1) from rfl)
      have HOL := Lib.hid (show orLit (maskOf (l.take k)) (l[k]'hkl) = if 0 < l[k]'hkl then ((maskOf (l.take k)).1 ||| bitOf (l[k]'hkl), (maskOf (l.take k)).2) else ((maskOf (l.take k)).1, (maskOf (l.take k)).2 ||| bitOf (l[k]'hkl)) from rfl)
      have HML := Lib.hid (show (maskOf (l.take k)).1 < 65536 ∧ (maskOf (l.take k)).2 < 65536 from hml)
      have HBL := Lib.hid hbl
      clear hml hbl
      generalize maskOf (l.take k) = m at *
      obtain ⟨mp, mq⟩ := m
      generalize l[k]'hkl = x at *
      generalize bitOf x = bt at *
      have HC := Lib.hid (fun W => Var_any x hlb.1 hlb.2 W)
      generalize varI x = v at *
      clear hkl hlb
      obtain ⟨hv1, hv2⟩ := hv
      have e1 : IntKind.i64.wrap (v - 1) = v - 1 := IntWalk.i64_in _ (by omega)
      have hbt : (2 : Int) ^ (v.toNat - 1) % 4294967296 = (bt : Int) := by
        have h1 := HBT.out
        have h2 := HBL.out
        rw [show (2 : Int) ^ (v.toNat - 1) = (bt : Int) by rw [h1]; simp]
        omega
      have hor1 : bits .or .u32 (mp : Int) (bt : Int) = ((mp ||| bt : Nat) : Int) := u32_or_nat mp bt (by have := HML.out.1; dsimp only at this; omega) (by have := HBL.out; omega)
      have hor2 : bits .or .u32 (mq : Int) (bt : Int) = ((mq ||| bt : Nat) : Int) := u32_or_nat mq bt (by have := HML.out.2; dsimp only at this; omega) (by have := HBL.out; omega)
      have c0 : wr.cell? ⟨w.heap.size + 1, 0, none⟩ = some (.int .u32 mp) := HK0.out.cell 0
      have c1 : wr.cell? ⟨w.heap.size + 1, 1, none⟩ = some (.int .u32 mq) := HK0.out.cell 1
      have f0 : wr.frozen? ⟨w.heap.size + 1, 0, none⟩ = false := HK0.out.frozen 0
      have f1 : wr.frozen? ⟨w.heap.size + 1, 1, none⟩ = false := HK0.out.frozen 1
      by_cases hx : 0 < x
      · have HE := Lib.hid (HT.out.trans (HOL.out.trans (if_pos hx)))
        have HN0 := Lib.hid (show Blk (wr.setCell ⟨w.heap.size + 1, 0, none⟩ (.int .u32 ((mp ||| bt : Nat) : Int))) (w.heap.size + 1) 81 #[.int .u32 ((mp ||| bt : Nat) : Int), .int .u32 mq] by simpa using HK0.out.set_ 0 (.int .u32 ((mp ||| bt : Nat) : Int)))
        have HN1 := Lib.hid (HK1.out.far (p := ⟨w.heap.size + 1, 0, none⟩) (by show w.heap.size ≠ w.heap.size + 1; omega) (.int .u32 ((mp ||| bt : Nat) : Int)))
        have HNB := Lib.hid (HB.out.setCell (p := ⟨w.heap.size + 1, 0, none⟩) (by show w.heap.size ≤ w.heap.size + 1; omega) (.int .u32 ((mp ||| bt : Nat) : Int)))
        generalize mp ||| bt = mr at *
        go_wp2_with fail
        refine (HC.out _).mono ?_
        rintro e w1 ⟨rfl, rfl⟩
        go_wp2
        go_roundw
        case rel => exact ⟨k + 1, by omega, by go_num, by rw [HE.out]; exact HN0.out, HN1.out, HNB.out⟩
        case measure => simp [intOf]; omega
      · have HE := Lib.hid (HT.out.trans (HOL.out.trans (if_neg hx)))
        have HN0 := Lib.hid (show Blk (wr.setCell ⟨w.heap.size + 1, 1, none⟩ (.int .u32 ((mq ||| bt : Nat) : Int))) (w.heap.size + 1) 81 #[.int .u32 mp, .int .u32 ((mq ||| bt : Nat) : Int)] by simpa using HK0.out.set_ 1 (.int .u32 ((mq ||| bt : Nat) : Int)))
        have HN1 := Lib.hid (HK1.out.far (p := ⟨w.heap.size + 1, 1, none⟩) (by show w.heap.size ≠ w.heap.size + 1; omega) (.int .u32 ((mq ||| bt : Nat) : Int)))
        have HNB := Lib.hid (HB.out.setCell (p := ⟨w.heap.size + 1, 1, none⟩) (by show w.heap.size ≤ w.heap.size + 1; omega) (.int .u32 ((mq ||| bt : Nat) : Int)))
        generalize mq ||| bt = mr at *
        go_wp2_with fail
        refine (HC.out _).mono ?_
        rintro e w1 ⟨rfl, rfl⟩
        go_wp2
        go_roundw
        case rel => exact ⟨k + 1, by omega, by go_num, by rw [HE.out]; exact HN0.out, HN1.out, HNB.out⟩
        case measure => simp [intOf]; omega
    · have HE := Lib.hid (show maskOf (l.take k) = maskOf l by rw [List.take_of_length_le (by rw [← HL.out]; omega)])
      have c0 : wr.cell? ⟨w.heap.size + 1, 0, none⟩ = some (.int .u32 (maskOf (l.take k)).1) := HK0.out.cell 0
      have c1 : wr.cell? ⟨w.heap.size + 1, 1, none⟩ = some (.int .u32 (maskOf (l.take k)).2) := HK0.out.cell 1
      rw [HE.out] at c0 c1
      have d0 : wr.cell? ⟨w.heap.size, 0, none⟩ = some (.int .u32 0) := HK1.out.cell 0
      have d1 : wr.cell? ⟨w.heap.size, 1, none⟩ = some (.int .u32 0) := HK1.out.cell 1
      have f0 : wr.frozen? ⟨w.heap.size, 0, none⟩ = false := HK1.out.frozen 0
      have f1 : wr.frozen? ⟨w.heap.size, 1, none⟩ = false := HK1.out.frozen 1
      obtain ⟨m, hm⟩ : ∃ m, m = maskOf l := ⟨_, rfl⟩
      rw [← hm] at c0 c1
      have HMM := Lib.hid hm
      clear hm
      obtain ⟨mp, mq⟩ := m
      dsimp only at c0 c1
      go_wp2
      have E1 := Blk.set_ (Blk.set_ HK1.out 0 (.int .u32 mp)) 1 (.int .u32 mq)
      refine bodyPost_ret (results_cell_row (ty := 81) rfl _ _ w.heap.size 81 #[.int .u32 mp, .int .u32 mq] (0, 0) _ rfl E1 Try.underlying81 rfl (by kernel_rfl)) rfl ?_
      exact ⟨by rw [← HMM.out]; rfl, (HB.out.setCell (p := ⟨w.heap.size, 0, none⟩) (Nat.le_refl _) _).setCell (p := ⟨w.heap.size, 1, none⟩) (Nat.le_refl _) _⟩
end Go.Proofs.Ytfpohiflpemkjaa.Tr
