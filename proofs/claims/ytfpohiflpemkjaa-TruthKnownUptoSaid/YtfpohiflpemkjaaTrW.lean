/- TruthFinds and TruthImplies at whatever memory. -/
import Derived.Test.YtfpohiflpemkjaaTrV
namespace Go.Proofs.Ytfpohiflpemkjaa.Tr
open Go.RowKit Go.Proofs.Ytfpohiflpemkjaa.Mem Go.Proofs.Ytfpohiflpemkjaa.Sl Go.Proofs.Ytfpohiflpemkjaa.Cl Go.Proofs.Ytfpohiflpemkjaa.Mo Go.Shelf
open Go.Proofs.Ytfpohiflpemkjaa.FnL (Pred enc_at below_then)
set_option linter.unusedVariables false

theorem findS_len (N : Int) (cs : List CV) : (findS N cs).1.length ≤ 16 := by
  unfold findS
  split
  · rename_i h
    have := taken_ok h
    split
    · rw [modelB_length]; omega
    · exact Nat.zero_le _
  · exact Nat.zero_le _
set_option maxRecDepth 100000 in
theorem finds_any {B : Nat} {w : World} (hB : B ≤ w.heap.size) (N : Int) (ca : Option Addr) (cn cc : Nat) (cs : List CV) (hcs : ClsOk B w ca cn cs) :
    Calls Try.prog 6 #[.agg #[.int .i64 N, .slice ca cn cc]] w fun e w' => e = .returned (.bool true) ∧ Below w.heap.size w w' := by
  have HS := Lib.hid hB
  have HCS := Lib.hid hcs
  clear hB hcs
  go_enter Try.func6, Try.ntmps6
  go_upto_region 1 with (fail)
  obtain ⟨W0, hW0⟩ : ∃ W0, W0 = w.alloc (.cells #[.int .i64 N, .slice ca cn cc] 34) := ⟨_, rfl⟩
  rw [← hW0]
  have HB0 := Lib.hid (show Below w.heap.size w W0 from hW0 ▸ ((Below.refl _ w).alloc (Nat.le_refl _) _))
  have K0 := Lib.hid (show Blk W0 w.heap.size 34 #[.int .i64 N, .slice ca cn cc] from hW0 ▸ Blk.new w _ _)
  clear hW0
  have KW := Lib.hid fun (w2 : World) (hb : Below W0.heap.size W0 w2) => (show w2.cell? ⟨w.heap.size, 0, none⟩ = some (.int .i64 N) ∧ w2.cell? ⟨w.heap.size, 1, none⟩ = some (.slice ca cn cc) from ⟨(K0.out.below hb).cell 0, (K0.out.below hb).cell 1⟩)
  have CW := Lib.hid fun (w2 : World) (hb : Below W0.heap.size W0 w2) => (show B ≤ w2.heap.size ∧ ClsOk B w2 ca cn cs from
    ⟨Nat.le_trans HS.out (Nat.le_trans HB0.out.size hb.size), HCS.out.below ((below_then HB0.out hb HB0.out.size).mono HS.out)⟩)
  obtain ⟨q0, q1⟩ := KW.out W0 (Below.refl _ _)
  have HC := Lib.hid (small_any (CW.out W0 (Below.refl _ _)).1 N ca cn cc cs (CW.out W0 (Below.refl _ _)).2)
  go_wp2_with fail
  refine HC.out.mono ?_
  rintro e w1 ⟨⟨b, rfl, _⟩, hb1⟩
  have HB1 := Lib.hid hb1
  clear hb1 q0 q1 HC
  cases b with
  | false =>
    go_wp2
    go_ret
    exact ⟨rfl, below_then HB0.out HB1.out HB0.out.size⟩
  | true =>
    obtain ⟨q0, q1⟩ := KW.out w1 HB1.out
    have HC := Lib.hid (Find_any (CW.out w1 HB1.out).1 N ca cn cc cs (CW.out w1 HB1.out).2)
    go_wp2_with fail
    refine HC.out.mono ?_
    rintro e w2 ⟨⟨A, c, rfl, hO⟩, hb2⟩
    have HB2 := Lib.hid (below_then HB1.out hb2 HB1.out.size)
    have HL := Lib.hid (findS_len N cs)
    have HO := Lib.hid (md_own hO (Nat.le_trans HL.out (by decide)))
    clear hb2 q0 q1 HC hO
    obtain ⟨q0, q1⟩ := KW.out w2 HB2.out
    have HC := Lib.hid (rFind_any (CW.out w2 HB2.out).1 N ca cn cc cs (CW.out w2 HB2.out).2)
    obtain ⟨fs, hfs⟩ : ∃ fs, fs = findS N cs := ⟨_, rfl⟩
    rw [← hfs] at HO HL ⊢
    have HFS := Lib.hid hfs
    clear hfs
    obtain ⟨m, ok, er⟩ := fs
    dsimp only at HO HL ⊢
    go_wp2_with fail
    refine HC.out.mono ?_
    rintro e w3 ⟨hF, hb3⟩
    obtain ⟨A', c', rfl, hO⟩ := hF.get HFS.out.symm
    have HB3 := Lib.hid (below_then HB2.out hb3 HB2.out.size)
    have HO' := Lib.hid (md_own hO (Nat.le_trans HL.out (by decide)))
    have HO3 := Lib.hid ((HO.out.below hb3).up hb3.size)
    clear hb3 q0 q1 HC hO hF HO
    obtain ⟨q0, q1⟩ := KW.out w3 HB3.out
    have HC := Lib.hid (Count_any (CW.out w3 HB3.out).1 N ca cn cc cs (CW.out w3 HB3.out).2)
    go_wp2_with fail
    refine HC.out.mono ?_
    rintro e w4 ⟨rfl, hb4⟩
    have HB4 := Lib.hid (below_then HB3.out hb4 HB3.out.size)
    have HO4 := Lib.hid ((HO3.out.below hb4).up hb4.size)
    have HO4' := Lib.hid ((HO'.out.below hb4).up hb4.size)
    clear hb4 q0 q1 HC HO3 HO'
    obtain ⟨q0, q1⟩ := KW.out w4 HB4.out
    have HC := Lib.hid (rCount_any (CW.out w4 HB4.out).1 N ca cn cc cs (CW.out w4 HB4.out).2)
    generalize (countS N cs).1 = cnt at *
    generalize (countS N cs).2 = cer at *
    go_wp2_with fail
    refine HC.out.mono ?_
    rintro e w5 ⟨rfl, hb5⟩
    have HB5 := Lib.hid (below_then HB4.out hb5 HB4.out.size)
    have HO5 := Lib.hid ((HO4.out.below hb5).up hb5.size)
    have HO5' := Lib.hid ((HO4'.out.below hb5).up hb5.size)
    clear hb5 q0 q1 HC HO4 HO4'
    have HC := Lib.hid (sameModel_any (B := w5.heap.size) (Nat.le_refl _) A m.length c m HO5.out A' m.length c' m HO5'.out)
    rw [show (m == m) = true by simp] at HC
    go_wp2_with fail
    refine HC.out.mono ?_
    rintro e w6 ⟨rfl, hb6⟩
    have HB6 := Lib.hid (below_then HB5.out hb6 HB5.out.size)
    clear hb6 HC
    have HC := Lib.hid (works_any w6)
    go_wp2_with fail
    refine HC.out.mono ?_
    rintro e w7 ⟨rfl, hb7⟩
    have HB7 := Lib.hid (below_then HB6.out hb7 HB6.out.size)
    clear hb7 HC
    go_wp2
    go_ret
    exact ⟨rfl, below_then HB0.out HB7.out HB0.out.size⟩
end Go.Proofs.Ytfpohiflpemkjaa.Tr
