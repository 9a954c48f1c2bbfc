/- Trail: Model, Next; a trail that is not there: what they answer. Conditions: the bounds TOk, the memory. -/
import Derived.Test.YtbbpebfgdcidjaaTs
namespace Go.Proofs.Ytbbpebfgdcidjaa.Ta
open Go.RowKit Go.Proofs.Ytbbpebfgdcidjaa.Mem Go.Proofs.Ytbbpebfgdcidjaa.Sl Go.Proofs.Ytbbpebfgdcidjaa.Cl Go.Proofs.Ytbbpebfgdcidjaa.App Go.Shelf
open Go.Proofs.Ytbbpebfgdcidjaa.FnL (enc_at below_then)
set_option linter.unusedVariables false

theorem infoB : (Try.prog.info? 4).map (fun i => (i.zero, i.size, i.bytes)) = some (some (.bool false), 1, 1) := by kernel_rfl
theorem madeOne (z : Value) (n : Nat) : madeCells #[z] n = (List.replicate n z).toArray := by
  apply Array.ext
  · simp [madeCells]
  · intro i h1 h2
    simp [madeCells, Nat.mod_one]
def putB (M : List Bool) (l : Int) : List Bool := M.set ((varI l).toNat - 1) (decide (0 < l))
def modelL (lits : List Int) (N : Nat) : List Bool := lits.foldl putB (List.replicate N false)
theorem modelL_len (lits : List Int) (N : Nat) : (modelL lits N).length = N := by
  suffices h : ∀ (l : List Int) (M : List Bool), (l.foldl putB M).length = M.length by unfold modelL; rw [h]; simp
  intro l
  induction l with
  | nil => intro M; rfl
  | cons x l ih => intro M; rw [List.foldl_cons, ih]; simp [putB]
def modelV (m : TM) : List Bool := if m.lits.length = m.N then modelL m.lits m.N else []
theorem model_nil (w : World) : Calls Try.prog 24 #[.pointer none] w fun e w' => e = .returned (.tuple #[.slice none 0 0, .bool false]) ∧ Below w.heap.size w w' := by
  go_enter Try.func24, Try.ntmps24
  go_wp2_with fail
  go_quiet (fail)
  go_wp2
  go_ret2
  exact ⟨rfl, belowN (Below.refl _ _) _⟩
def ModelR (w : World) (m : TM) (e : Ending) (w' : World) : Prop := ∃ A c, e = .returned (.tuple #[.slice A (modelV m).length c, .bool (decide (m.lits.length = m.N))]) ∧ Own w' w.heap.size 4 A (modelV m).length c ((modelV m).map Value.bool)
set_option maxRecDepth 100000 in
theorem model_any {base g : Nat} {m : TM} {q : TQ} {w : World} (h : TrS w base g m q) (ok : TOk m) : Calls Try.prog 24 #[.pointer (some ⟨g, 0, none⟩)] w fun e w' => ModelR w m e w' ∧ Below w.heap.size w w' := by
  have HV := Lib.hid (fun W (hb : Below w.heap.size w W) => vars_any (h.below hb) ok)
  have H := Lib.hid h
  have OK := Lib.hid ok
  have hN := ok.N
  have hln := ok.ln
  have q0 : w.cell? ⟨g, 0, none⟩ = some (.slice q.lA m.lits.length q.lc) := h.blk.cell 0
  clear h ok
  by_cases he : m.lits.length = m.N
  · have HMV := Lib.hid (show modelV m = modelL m.lits m.N from if_pos he)
    have hmk : ∀ W, (Instr.makeSlice 54 (.int .i64 (m.N : Int)) (.int .i64 (m.N : Int))).run Try.prog W = .ok (.slice (some ⟨W.heap.size, 0, none⟩) m.N m.N) (W.alloc (.cells (madeCells #[.bool false] m.N) 4)) := fun W =>
      run_make_row' _ _ (.bool false) 1 Try.underlying54 infoB rfl .i64 .i64 m.N (by omega) (by omega) W
    have HML := Lib.hid (modelL_len m.lits m.N)
    have HFIN := Lib.hid (fun (A : Option Addr) (c : Nat) (w' : World) (e : Ending) (he2 : e = .returned (.tuple #[.slice A m.N c, .bool true])) (hO : Own w' w.heap.size 4 A m.N c ((modelL m.lits m.N).map Value.bool)) => (show ModelR w m e w' from ⟨A, c, by rw [HMV.out, HML.out, decide_eq_true he]; exact he2, by rw [HMV.out, HML.out]; exact hO⟩))
    have HLB := Lib.hid OK.out.lb
    have HEE := Lib.hid he
    have HQ0 := Lib.hid (fun W (hb : Below w.heap.size w W) => (show W.cell? ⟨g, 0, none⟩ = some (.slice q.lA m.N q.lc) from by rw [← he]; exact (H.out.below hb).blk.cell 0))
    have HRD := Lib.hid (fun W (hb : Below w.heap.size w W) => (H.out.below hb).lits.rd)
    rw [he] at q0
    clear he OK HMV
    generalize m.N = N at *
    go_enter Try.func24, Try.ntmps24
    have HV1 := Lib.hid (fun n => HV.out (w.drewN n) (belowN (Below.refl _ _) n))
    go_wp2_with fail
    go_quiet ((go_at_call 28; refine (HV1.out _).mono ?_; rintro e w' ⟨rfl, rfl⟩; exact ⟨rfl, _, rfl⟩))
    have HV2 := Lib.hid (HV1.out nq)
    go_wp2_with fail
    refine HV2.out.mono ?_
    rintro e w1 ⟨rfl, rfl⟩
    go_upto_region 4 with (fail)
    obtain ⟨W2, hW2⟩ : ∃ W2, W2 = (w.drewN nq).alloc (.cells (madeCells #[.bool false] N) 4) := ⟨_, rfl⟩
    rw [← hW2]
    have HB2 := Lib.hid (show Below w.heap.size w W2 from hW2 ▸ (belowN (Below.refl _ _) nq).alloc (Nat.le_refl _) _)
    have HO := Lib.hid (show Own W2 w.heap.size 4 (some ⟨w.heap.size, 0, none⟩) N N ((List.replicate N false).map Value.bool) by
      rw [hW2, madeOne, List.map_replicate]
      refine ⟨by simp, .inr ⟨_, rfl, Nat.le_refl _, by unfold maxLen; omega, ?_⟩⟩
      have := Row.new (w.drewN nq) 4 (List.replicate N (Value.bool false))
      simpa using this)
    have q2 := HQ0.out W2 HB2.out
    clear hW2 q0
    generalize hgB : w.heap.size = B at *
    have HBE := Lib.hid hgB
    clear hgB HV HV1 HV2
    go_wp2_with fail
    go_loopw [6, 27] (fun x i wr => ∃ k : Nat, k ≤ N ∧ i = .int .i64 k ∧ Own wr B 4 (some ⟨B, 0, none⟩) N N ((modelL (m.lits.take k) N).map Value.bool) ∧ Below B w wr) (fun _ i _ => N - (intOf i).toNat)
    case atStart => exact ⟨0, Nat.zero_le _, rfl, HO.out, HB2.out⟩
    case round =>
      clear HO HB2 q2
      obtain ⟨k, hk, rfl, hO, hb⟩ := hrel
      have HO := Lib.hid hO
      have HB := Lib.hid hb
      clear hO hb
      by_cases hlt : k < N
      · have hkl : k < m.lits.length := by rw [HEE.out]; exact hlt
        obtain ⟨b, off, ha, _, hc⟩ := RdV.at_ (HRD.out wr HB.out) (enc_at (enc := Value.int .i32) hkl)
        have hlb := HLB.out _ (List.getElem_mem hkl)
        have HSN := Lib.hid (show modelL (m.lits.take (k + 1)) N = putB (modelL (m.lits.take k) N) (m.lits[k]'hkl) by unfold modelL; rw [List.take_succ_eq_append_getElem hkl, List.foldl_append]; rfl)
        have HLN := Lib.hid (modelL_len (m.lits.take k) N)
        generalize m.lits[k]'hkl = x at *
        have HV3 := Lib.hid (Var_any x hlb.1.1 hlb.1.2)
        have HPB := Lib.hid (show putB (modelL (m.lits.take k) N) x = (modelL (m.lits.take k) N).set ((varI x).toNat - 1) (decide (0 < x)) from rfl)
        generalize modelL (m.lits.take k) N = M at *
        obtain ⟨_, hv1, hv2⟩ := hlb
        generalize varI x = v at *
        rw [ha]
        have hrow : Row wr B 4 (M.map Value.bool) N := by
          obtain ⟨g', e1, _, h2⟩ := HO.out.row (by omega)
          cases e1; exact h2
        have hcs : wr.cell? ⟨B, v.toNat - 1, none⟩ = some (.bool (M.getD (v.toNat - 1) false)) := hrow.cell (bools_at (by rw [HLN.out]; omega))
        have hfz : wr.frozen? ⟨B, v.toNat - 1, none⟩ = false := hrow.frozen _
        have e1 : IntKind.i64.wrap (v - 1) = v - 1 := IntWalk.i64_in _ (by omega)
        have HNX := Lib.hid (show Own (wr.setCell ⟨B, v.toNat - 1, none⟩ (.bool (decide (0 < x)))) B 4 (some ⟨B, 0, none⟩) N N ((modelL (m.lits.take (k + 1)) N).map Value.bool) by
          have := HO.out.set_ (v.toNat - 1) (by omega) (.bool (decide (0 < x)))
          rw [HSN.out, HPB.out, List.map_set]; exact this)
        have HNB := Lib.hid (show Below B w (wr.setCell ⟨B, v.toNat - 1, none⟩ (.bool (decide (0 < x)))) from HB.out.setCell (p := ⟨B, v.toNat - 1, none⟩) (Nat.le_refl _) _)
        clear hrow hkl
        go_wp2_with fail
        refine (HV3.out _).mono ?_
        rintro e w3 ⟨rfl, rfl⟩
        go_wp2
        go_roundw
        case rel => exact ⟨k + 1, by omega, by go_num, HNX.out, HNB.out⟩
        case measure => simp [intOf]; omega
      · have HEQ := Lib.hid (show m.lits.take k = m.lits from List.take_of_length_le (by rw [HEE.out]; omega))
        go_wp2
        go_ret2
        exact ⟨HFIN.out (some ⟨B, 0, none⟩) N _ _ rfl (by rw [← HEQ.out]; exact HO.out), by rw [HBE.out]; exact HB.out⟩
  · have HMV := Lib.hid (show modelV m = [] from if_neg he)
    have HFIN := Lib.hid (fun (w' : World) (e : Ending) (he2 : e = .returned (.tuple #[.slice none 0 0, .bool false])) => (show ModelR w m e w' from ⟨none, 0, by rw [HMV.out, decide_eq_false he]; exact he2, by rw [HMV.out]; exact Own.nil _ _ _⟩))
    have hne : ((m.lits.length : Int) == (m.N : Int)) = false := beq_eq_false_iff_ne.2 (by omega)
    have hne2 : ((m.lits.length : Int) != (m.N : Int)) = true := by simp; omega
    clear he HMV OK
    generalize m.N = N at *
    generalize m.lits.length = L at *
    go_enter Try.func24, Try.ntmps24
    have HV1 := Lib.hid (fun n => HV.out (w.drewN n) (belowN (Below.refl _ _) n))
    go_wp2_with fail
    go_quiet ((go_at_call 28; refine (HV1.out _).mono ?_; rintro e w' ⟨rfl, rfl⟩; exact ⟨rfl, _, rfl⟩))
    go_wp2
    go_ret2
    exact ⟨HFIN.out _ _ rfl, belowN (Below.refl _ _) _⟩
end Go.Proofs.Ytbbpebfgdcidjaa.Ta
