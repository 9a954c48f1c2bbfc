/- The walk of tells of the statements of phase. -/
import Derived.Test.YtcmicmghnmklnaaPhZ
namespace Go.Proofs.Ytcmicmghnmklnaa.Ph
open Go.RowKit Go.Proofs.Ytcmicmghnmklnaa.Mem Go.Proofs.Ytcmicmghnmklnaa.Sl Go.Shelf
set_option linter.unusedVariables false

set_option maxRecDepth 100000 in
set_option maxHeartbeats 4000000 in
theorem tells_ok {w : World} {B g g' : Nat} {p : PV} {r : RV} (h : Ph w B g p) (h' : Rf w B g' p.abs r) :
    Calls Try.prog 22 #[.pointer (some ⟨g, 0, none⟩), .pointer (some ⟨g', 0, none⟩)] w fun e w' => e = .returned (.bool true) ∧ Below w.heap.size w w' := by
  have HP := Lib.hid h
  have HR := Lib.hid h'
  have SV := Lib.hid (saved_ok h)
  have HLN := Lib.hid h.len
  have HW := Lib.hid h'.blk.lt
  generalize hN : p.saved.length = N at *
  have HN := Lib.hid hN
  clear h h' hN
  go_enter Try.func22, Try.ntmps22
  go_wp2_with fail
  refine SV.out.mono ?_
  rintro e w1 ⟨g2, cap2, rfl, hg2, hrow, hb1⟩
  have HB1 := Lib.hid hb1
  have HROW := Lib.hid hrow
  have HG2 := Lib.hid hg2
  have c0 : w1.cell? ⟨g', 0, none⟩ = some (.slice r.vA N r.vc) := by rw [← HN.out]; exact (HR.out.below hb1).blk.cell 0
  clear hb1 hrow hg2
  go_wp2_with fail
  go_loopw [6] (fun x wr => ∃ (i : Nat) (vs : List Bool), i ≤ N ∧ x = .int .i64 i ∧ Below w.heap.size w wr ∧ Row wr g2 4 (vs.map Value.bool) cap2 ∧ vs.length = N ∧ ∀ j, i ≤ j → vs.getD j false = p.saved.getD j false) (fun x _ => N - (intOf x).toNat)
  case atStart => exact ⟨0, p.saved, Nat.zero_le _, rfl, HB1.out, HROW.out, HN.out, fun _ _ => rfl⟩
  case round =>
    clear c0
    obtain ⟨i, vs, hi, rfl, hb, hrow, hl, hsame⟩ := hrel
    have HB := Lib.hid hb
    have HRW := Lib.hid hrow
    have HVL := Lib.hid hl
    have HSM := Lib.hid hsame
    clear hb hrow hl hsame
    have hNN := HLN.out
    by_cases hiN : i < N
    · have D1 := Lib.hid (decide_any (HP.out.below HB.out) ((i : Int) + 1))
      have D2 := Lib.hid (fun (w9 : World) (hb9 : Below wr.heap.size wr w9) => rdecide_any (HR.out.below (below_then HB.out hb9 HB.out.size)) ((i : Int) + 1))
      generalize hda : decA p.abs ((i : Int) + 1) = da at *
      clear hda
      obtain ⟨d1, d2⟩ := da
      go_wp2_with fail
      refine D1.out.mono ?_
      rintro e w9 ⟨rfl, hb9⟩
      have HB9 := Lib.hid hb9
      have E2 := Lib.hid (D2.out w9 hb9)
      clear hb9
      go_wp2_with fail
      refine E2.out.mono ?_
      rintro e w10 ⟨rfl, hb10⟩
      have HB10 := Lib.hid (below_then HB9.out hb10 HB9.out.size)
      clear hb10
      have HBA := Lib.hid (below_then HB.out HB10.out HB.out.size)
      have R10 := Lib.hid (HR.out.below HBA.out)
      have hpl : p.abs.saved.length = N := HN.out
      obtain ⟨gv, hgv, hrv⟩ := R10.out.row_ (by omega)
      have c0 : w10.cell? ⟨g', 0, none⟩ = some (.slice (some ⟨gv, 0, none⟩) N r.vc) := by rw [← hgv, ← hpl]; exact R10.out.blk.cell 0
      have c1 : w10.cell? ⟨gv, i, none⟩ = some (.bool (p.saved.getD i false)) := hrv.cell (bools_at (l := p.saved) (by rw [HN.out]; exact hiN))
      have RW := Lib.hid (HRW.out.below HB10.out)
      have c2 : w10.cell? ⟨g2, i, none⟩ = some (.bool (p.saved.getD i false)) := by rw [← HSM.out i (Nat.le_refl _)]; exact RW.out.cell (bools_at (by rw [HVL.out]; exact hiN))
      have f2 : w10.frozen? ⟨g2, i, none⟩ = false := RW.out.frozen i
      have HSM2 := Lib.hid (show ∀ b j, i + 1 ≤ j → (vs.set i b).getD j false = p.saved.getD j false from fun b j hj => by
        rw [← HSM.out j (by omega)]
        simp [List.getD_eq_getElem?_getD, show i ≠ j by omega])
      clear hgv hrv hpl
      generalize p.saved.getD i false = sv at *
      cases sv <;> cases d1 <;> (
        go_wp2_with fail
        go_quiet (fail)
        go_wp2
        go_roundw
        case rel =>
          have hset := fun b => Row.set_ (RW.out.drewN nq) i (by rw [List.length_map, HVL.out]; exact hiN) (.bool b)
          exact ⟨i + 1, vs.set i _, by omega, by go_num, (belowN HBA.out _).setCell (HG2.out) _, by simpa [List.map_set] using hset _, by simp [HVL.out], HSM2.out _⟩
        case measure => simp [intOf]; omega)
    · go_wp2
      go_ret
      exact ⟨rfl, HB.out⟩
end Go.Proofs.Ytcmicmghnmklnaa.Ph
