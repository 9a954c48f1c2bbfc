/- TruthImplies at whatever memory. -/
import Derived.Test.YtfpohiflpemkjaaTrW
namespace Go.Proofs.Ytfpohiflpemkjaa.Tr
open Go.RowKit Go.Proofs.Ytfpohiflpemkjaa.Mem Go.Proofs.Ytfpohiflpemkjaa.Sl Go.Proofs.Ytfpohiflpemkjaa.Cl Go.Proofs.Ytfpohiflpemkjaa.Mo Go.Shelf
open Go.Proofs.Ytfpohiflpemkjaa.FnL (Pred enc_at below_then)
set_option linter.unusedVariables false

set_option maxRecDepth 100000 in
theorem implies_any {B : Nat} {w : World} (hB : B ≤ w.heap.size) (N : Int) (ca : Option Addr) (cn cc : Nat) (cs : List CV) (hcs : ClsOk B w ca cn cs) (N' : Int) (da : Option Addr) (dn dc : Nat) (ds : List CV) (hds : ClsOk B w da dn ds) (x : CV) (hx : ClOk B w x) :
    Calls Try.prog 7 #[.agg #[.int .i64 N, .slice ca cn cc], .agg #[.int .i64 N', .slice da dn dc], x.v] w fun e w' => e = .returned (.bool true) ∧ Below w.heap.size w w' := by
  have HS := Lib.hid hB
  have HCS := Lib.hid hcs
  have HDS := Lib.hid hds
  have HX := Lib.hid hx
  obtain ⟨xa, xn, xc, l⟩ := x
  dsimp only [CV.v]
  have hxn : xn ≤ 9223372036854775807 := hx.mx
  clear hB hcs hds hx
  go_enter Try.func7, Try.ntmps7
  go_upto_region 1 with (fail)
  obtain ⟨W0, hW0⟩ : ∃ W0, W0 = (w.alloc (.cells #[.int .i64 N, .slice ca cn cc] 34)).alloc (.cells #[.int .i64 N', .slice da dn dc] 34) := ⟨_, rfl⟩
  rw [← hW0]
  have HB0 := Lib.hid (show Below w.heap.size w W0 from hW0 ▸ (((Below.refl _ w).alloc (Nat.le_refl _) _).alloc (by simp) _))
  have K0 := Lib.hid (show Blk W0 w.heap.size 34 #[.int .i64 N, .slice ca cn cc] from hW0 ▸ (Blk.new w _ _).alloc _)
  have K1 := Lib.hid (show Blk W0 (w.heap.size + 1) 34 #[.int .i64 N', .slice da dn dc] by rw [hW0]; exact Cl.blk_here (by simp))
  clear hW0
  have KW := Lib.hid fun (w2 : World) (hb : Below W0.heap.size W0 w2) => (show w2.cell? ⟨w.heap.size, 0, none⟩ = some (.int .i64 N) ∧ w2.cell? ⟨w.heap.size, 1, none⟩ = some (.slice ca cn cc) from ⟨(K0.out.below hb).cell 0, (K0.out.below hb).cell 1⟩)
  have KV := Lib.hid fun (w2 : World) (hb : Below W0.heap.size W0 w2) => (show w2.cell? ⟨w.heap.size + 1, 0, none⟩ = some (.int .i64 N') ∧ w2.cell? ⟨w.heap.size + 1, 1, none⟩ = some (.slice da dn dc) from ⟨(K1.out.below hb).cell 0, (K1.out.below hb).cell 1⟩)
  have CB := Lib.hid fun (w2 : World) (hb : Below W0.heap.size W0 w2) => (show B ≤ w2.heap.size from Nat.le_trans HS.out (Nat.le_trans HB0.out.size hb.size))
  have CW := Lib.hid fun (w2 : World) (hb : Below W0.heap.size W0 w2) => (show ClsOk B w2 ca cn cs from HCS.out.below ((below_then HB0.out hb HB0.out.size).mono HS.out))
  have CV' := Lib.hid fun (w2 : World) (hb : Below W0.heap.size W0 w2) => (show ClsOk B w2 da dn ds from HDS.out.below ((below_then HB0.out hb HB0.out.size).mono HS.out))
  have CX := Lib.hid fun (w2 : World) (hb : Below W0.heap.size W0 w2) => (show ClOk B w2 ⟨xa, xn, xc, l⟩ from HX.out.below ((below_then HB0.out hb HB0.out.size).mono HS.out))
  obtain ⟨q0, q1⟩ := KW.out W0 (Below.refl _ _)
  have HC := Lib.hid (small_any (CB.out W0 (Below.refl _ _)) N ca cn cc cs (CW.out W0 (Below.refl _ _)))
  go_wp2_with fail
  refine HC.out.mono ?_
  rintro e w1 ⟨⟨b, rfl, _⟩, hb1⟩
  have HB1 := Lib.hid hb1
  clear hb1 q0 q1 HC
  cases b with
  | false =>
    go_wp2
    go_ret
    exact ⟨rfl, below_then HB0.out HB1.out HB0.out.size⟩
  | true =>
    obtain ⟨q0, q1⟩ := KV.out w1 HB1.out
    have HC := Lib.hid (small_any (CB.out w1 HB1.out) N' da dn dc ds (CV'.out w1 HB1.out))
    go_wp2_with fail
    refine HC.out.mono ?_
    rintro e w2 ⟨⟨b, rfl, _⟩, hb2⟩
    have HB2 := Lib.hid (below_then HB1.out hb2 HB1.out.size)
    clear hb2 q0 q1 HC
    cases b with
    | false =>
      go_wp2
      go_ret
      exact ⟨rfl, below_then HB0.out HB2.out HB0.out.size⟩
    | true =>
      by_cases hx100 : 100 < xn
      · have hx101 : (100 : Int) < xn := by omega
        go_wp2
        go_ret
        exact ⟨rfl, below_then HB0.out HB2.out HB0.out.size⟩
      · have hx101 : ¬ (100 : Int) < xn := by omega
        obtain ⟨q0, q1⟩ := KW.out w2 HB2.out
        have HC := Lib.hid (Implies_any (CB.out w2 HB2.out) N ca cn cc cs (CW.out w2 HB2.out) _ (CX.out w2 HB2.out))
        dsimp only [CV.v] at HC
        have HC2 := Lib.hid fun (w3 : World) (hb : Below W0.heap.size W0 w3) => rImplies_any (CB.out w3 hb) N ca cn cc cs (CW.out w3 hb) _ (CX.out w3 hb)
        dsimp only [CV.v] at HC2
        generalize (impliesS N cs l).1 = ia at *
        generalize (impliesS N cs l).2 = ib at *
        go_wp2_with fail
        refine HC.out.mono ?_
        rintro e w3 ⟨rfl, hb3⟩
        have HB3 := Lib.hid (below_then HB2.out hb3 HB2.out.size)
        clear hb3 q0 q1 HC
        obtain ⟨q0, q1⟩ := KW.out w3 HB3.out
        have HC := Lib.hid (HC2.out w3 HB3.out)
        go_wp2_with fail
        refine HC.out.mono ?_
        rintro e w4 ⟨rfl, hb4⟩
        have HB4 := Lib.hid (below_then HB3.out hb4 HB3.out.size)
        clear hb4 q0 q1 HC HC2
        obtain ⟨q0, q1⟩ := KW.out w4 HB4.out
        obtain ⟨q2, q3⟩ := KV.out w4 HB4.out
        have HC := Lib.hid (Alike_any (CB.out w4 HB4.out) N ca cn cc cs (CW.out w4 HB4.out) N' da dn dc ds (CV'.out w4 HB4.out))
        have HC2 := Lib.hid fun (w3 : World) (hb : Below W0.heap.size W0 w3) => rAlike_any (CB.out w3 hb) N ca cn cc cs (CW.out w3 hb) N' da dn dc ds (CV'.out w3 hb)
        generalize (alikeS N cs N' ds).1 = ja at *
        generalize (alikeS N cs N' ds).2 = jb at *
        go_wp2_with fail
        refine HC.out.mono ?_
        rintro e w5 ⟨rfl, hb5⟩
        have HB5 := Lib.hid (below_then HB4.out hb5 HB4.out.size)
        clear hb5 q0 q1 q2 q3 HC
        obtain ⟨q0, q1⟩ := KW.out w5 HB5.out
        obtain ⟨q2, q3⟩ := KV.out w5 HB5.out
        have HC := Lib.hid (HC2.out w5 HB5.out)
        go_wp2_with fail
        refine HC.out.mono ?_
        rintro e w6 ⟨rfl, hb6⟩
        have HB6 := Lib.hid (below_then HB5.out hb6 HB5.out.size)
        clear hb6 q0 q1 q2 q3 HC
        have HC := Lib.hid (works_any w6)
        go_wp2_with fail
        refine HC.out.mono ?_
        rintro e w7 ⟨rfl, hb7⟩
        have HB7 := Lib.hid (below_then HB6.out hb7 HB6.out.size)
        clear hb7 HC
        go_wp2
        go_ret
        exact ⟨rfl, below_then HB0.out HB7.out HB0.out.size⟩
end Go.Proofs.Ytfpohiflpemkjaa.Tr
