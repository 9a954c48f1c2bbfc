/- The document's trail: Model: what it answers. Conditions: the bounds DOk, the memory. -/
import Derived.Test.YtbbpebfgdcidjaaUf
import Derived.StillTailTactics
namespace Go.Proofs.Ytbbpebfgdcidjaa.Ta
open Go.RowKit Go.Proofs.Ytbbpebfgdcidjaa.Mem Go.Proofs.Ytbbpebfgdcidjaa.Sl Go.Proofs.Ytbbpebfgdcidjaa.Cl Go.Proofs.Ytbbpebfgdcidjaa.App Go.Shelf
open Go.Proofs.Ytbbpebfgdcidjaa.FnL (enc_at below_then)
set_option linter.unusedVariables false

def mdlD (d : DM) : List Bool := if d.row.length = d.N then modelL (litsD d.row) d.N else []
def RModelR (w : World) (d : DM) (e : Ending) (w' : World) : Prop := ∃ A c, e = .returned (.tuple #[.slice A (mdlD d).length c, .bool (decide (d.row.length = d.N))]) ∧ App.Own w' w.heap.size 4 A (mdlD d).length c ((mdlD d).map Value.bool)
set_option maxRecDepth 100000 in
theorem rmodel_any {base g c : Nat} {d : DM} {A : Option Addr} {w : World} (h : DrS w base g d A c) (ok : DOk d) : Calls Try.prog 44 #[.pointer (some ⟨g, 0, none⟩)] w fun e w' => RModelR w d e w' ∧ Below w.heap.size w w' := by
  have H := Lib.hid h
  have OK := Lib.hid ok
  have hN := ok.N
  have hln := ok.ln
  have c1 : w.cell? ⟨g, 1, none⟩ = some (.slice A d.row.length c) := h.blk.cell 1
  have c0 : w.cell? ⟨g, 0, none⟩ = some (.int .i64 (d.N : Int)) := h.blk.cell 0
  clear h ok
  by_cases he : d.row.length = d.N
  · have HMV := Lib.hid (show mdlD d = modelL (litsD d.row) d.N from if_pos he)
    have hmk : ∀ W, (Instr.makeSlice 54 (.int .i64 (d.N : Int)) (.int .i64 (d.N : Int))).run Try.prog W = .ok (.slice (some ⟨W.heap.size, 0, none⟩) d.N d.N) (W.alloc (.cells (madeCells #[.bool false] d.N) 4)) := fun W =>
      run_make_row' _ _ (.bool false) 1 Try.underlying54 infoB rfl .i64 .i64 d.N (by omega) (by omega) W
    have HML := Lib.hid (modelL_len (litsD d.row) d.N)
    have HFIN := Lib.hid (fun (A : Option Addr) (c : Nat) (w' : World) (e : Ending) (he2 : e = .returned (.tuple #[.slice A d.N c, .bool true])) (hO : App.Own w' w.heap.size 4 A d.N c ((modelL (litsD d.row) d.N).map Value.bool)) => (show RModelR w d e w' from ⟨A, c, by rw [HMV.out, HML.out, decide_eq_true he]; exact he2, by rw [HMV.out, HML.out]; exact hO⟩))
    have HEB := Lib.hid OK.out.eb
    have HEE := Lib.hid he
    have HC1 := Lib.hid (fun W (hb : Below w.heap.size w W) => (show W.cell? ⟨g, 1, none⟩ = some (.slice A d.N c) from by rw [← he]; exact (H.out.below hb).blk.cell 1))
    rw [he] at c1
    clear he OK HMV
    generalize d.N = N at *
    go_enter Try.func44, Try.ntmps44
    go_wp2_with fail
    go_quiet (fail)
    go_upto_region 4 with (fail)
    obtain ⟨W2, hW2⟩ : ∃ W2, W2 = (w.drewN nq).alloc (.cells (madeCells #[.bool false] N) 4) := ⟨_, rfl⟩
    rw [← hW2]
    have HB2 := Lib.hid (show Below w.heap.size w W2 from hW2 ▸ (belowN (Below.refl _ _) nq).alloc (Nat.le_refl _) _)
    have HO := Lib.hid (show App.Own W2 w.heap.size 4 (some ⟨w.heap.size, 0, none⟩) N N ((List.replicate N false).map Value.bool) by
      rw [hW2, madeOne, List.map_replicate]
      refine ⟨by simp, .inr ⟨_, rfl, Nat.le_refl _, by unfold maxLen; omega, ?_⟩⟩
      have := Row.new (w.drewN nq) 4 (List.replicate N (Value.bool false))
      simpa using this)
    clear hW2 c1 c0 hmk
    generalize hgB : w.heap.size = B at *
    have HBE := Lib.hid hgB
    clear hgB
    go_wp2_with fail
    go_loopw [5] (fun i wr => ∃ k : Nat, k ≤ N ∧ i = .int .i64 k ∧ App.Own wr B 4 (some ⟨B, 0, none⟩) N N ((modelL ((litsD d.row).take k) N).map Value.bool) ∧ Below B w wr) (fun i _ => N - (intOf i).toNat)
    case atStart => exact ⟨0, Nat.zero_le _, rfl, HO.out, HB2.out⟩
    case round =>
      clear HO HB2
      obtain ⟨k, hk, rfl, hO, hb⟩ := hrel
      have HO := Lib.hid hO
      have HB := Lib.hid hb
      clear hO hb
      have c1 : wr.cell? ⟨g, 1, none⟩ = some (.slice A N c) := HC1.out wr HB.out
      by_cases hlt : k < N
      · have hkl : k < d.row.length := by rw [HEE.out]; exact hlt
        have hkl2 : k < (litsD d.row).length := by rw [litsD_len]; exact hkl
        obtain ⟨b, ha, hbl, hc0, -, -⟩ := ((H.out.below (by rw [HBE.out]; exact HB.out)).rows).at_ hkl
        subst ha
        have hbd := HEB.out _ (List.getElem_mem hkl)
        have HSN := Lib.hid (show modelL ((litsD d.row).take (k + 1)) N = putB (modelL ((litsD d.row).take k) N) (d.row[k]'hkl).1 by unfold modelL; rw [List.take_succ_eq_append_getElem hkl2, List.foldl_append, List.foldl_cons, List.foldl_nil]; rw [show (litsD d.row)[k] = (d.row[k]'hkl).1 from List.getElem_map _])
        have HLN := Lib.hid (modelL_len ((litsD d.row).take k) N)
        generalize d.row[k]'hkl = y at *
        obtain ⟨x, yv, yr⟩ := y
        dsimp only at hc0 hbd HSN
        have HV3 := Lib.hid (rVar_any x hbd.1.1 hbd.1.2)
        have HPB := Lib.hid (show putB (modelL ((litsD d.row).take k) N) x = (modelL ((litsD d.row).take k) N).set ((varI x).toNat - 1) (decide (0 < x)) from rfl)
        generalize modelL ((litsD d.row).take k) N = M at *
        obtain ⟨_, ⟨hv1, hv2⟩, _⟩ := hbd
        obtain ⟨vn, hvn⟩ : ∃ vn : Nat, varI x = (vn : Int) + 1 := ⟨(varI x - 1).toNat, by omega⟩
        rw [hvn] at HV3 HPB hv1 hv2
        rw [show ((vn : Int) + 1).toNat - 1 = vn by omega] at HPB
        clear hvn
        have hvn1 : (vn : Int) < (N : Int) := by omega
        have hvn2 : (0 : Int) ≤ (vn : Int) := Int.natCast_nonneg _
        have hvn3 : vn < N := by omega
        have hrow : Row wr B 4 (M.map Value.bool) N := by
          obtain ⟨g', e1, _, h2⟩ := HO.out.row (by omega)
          cases e1; exact h2
        have hcs : wr.cell? ⟨B, vn, none⟩ = some (.bool (M.getD (vn) false)) := hrow.cell (bools_at (by rw [HLN.out]; exact hvn3))
        have hfz : wr.frozen? ⟨B, vn, none⟩ = false := hrow.frozen _
        have e1 : IntKind.i64.wrap ((vn : Int) + 1 - 1) = (vn : Int) := by rw [IntWalk.i64_in _ (by omega)]; omega
        have e2 : IntKind.i64.wrap (vn : Int) = (vn : Int) := IntWalk.i64_in _ (by omega)
        have HNX := Lib.hid (fun j => (show App.Own ((wr.drew.setCell ⟨B, vn, none⟩ (.bool (decide (0 < x)))).drewN j) B 4 (some ⟨B, 0, none⟩) N N ((modelL ((litsD d.row).take (k + 1)) N).map Value.bool) by
          have := (HO.out.drewN 1).set_ vn (by omega) (.bool (decide (0 < x)))
          rw [HSN.out, HPB.out, List.map_set]; exact this))
        have HNB := Lib.hid (show Below B w (wr.drew.setCell ⟨B, vn, none⟩ (.bool (decide (0 < x)))) from (HB.out.drew).setCell (p := ⟨B, vn, none⟩) (Nat.le_refl _) _)
        clear hrow hkl hkl2
        go_upto_region 7 with (fail)
        have dc1 : wr.drew.cell? ⟨g, 1, none⟩ = some (.slice (some ⟨b, 0, none⟩) N c) := c1
        have dc0 : wr.drew.cell? ⟨b, k * 3, none⟩ = some (.int .i32 x) := hc0
        have dcs : wr.drew.cell? ⟨B, vn, none⟩ = some (.bool (M.getD (vn) false)) := hcs
        have dfz : wr.drew.frozen? ⟨B, vn, none⟩ = false := hfz
        refine wp_region_still_tail 21 (by kernel_rfl) (by kernel_rfl) ?_
        change wpStill _ _ wr.drew _ _ _
        simp only [List.take_succ_cons, List.take_zero, List.drop_succ_cons, List.drop_zero]
        repeat still_step
        still_call ((HV3.out _).mono fun _ _ h => ⟨h.1, h.2.symm⟩)
        repeat still_step
        refine wpStill_nil ?_
        change wpList _ _ _ _ _ wr.drew
        go_wp2
        go_roundw
        case rel => exact ⟨k + 1, by omega, by go_num, HNX.out 0, HNB.out⟩
        case measure => simp [intOf]; omega
      · have HEQ := Lib.hid (show (litsD d.row).take k = litsD d.row from List.take_of_length_le (by rw [litsD_len, HEE.out]; omega))
        go_wp2
        go_ret2
        exact ⟨HFIN.out (some ⟨B, 0, none⟩) N _ _ rfl (by rw [← HEQ.out]; exact HO.out), by rw [HBE.out]; exact HB.out⟩
  · have HMV := Lib.hid (show mdlD d = [] from if_neg he)
    have HFIN := Lib.hid (fun (w' : World) (e : Ending) (he2 : e = .returned (.tuple #[.slice none 0 0, .bool false])) => (show RModelR w d e w' from ⟨none, 0, by rw [HMV.out, decide_eq_false he]; exact he2, by rw [HMV.out]; exact Own.nil _ _ _⟩))
    have hne : ((d.row.length : Int) == (d.N : Int)) = false := by simp; omega
    clear OK HMV
    generalize d.row.length = L at *
    generalize d.N = N at *
    clear he
    go_enter Try.func44, Try.ntmps44
    go_wp2_with fail
    go_quiet (fail)
    go_wp2
    go_ret2
    exact ⟨HFIN.out _ _ rfl, belowN (Below.refl _ _) _⟩
end Go.Proofs.Ytbbpebfgdcidjaa.Ta
