/- Trail: Vars, Levels, Len, Lits, spot, of, Level, Reason, Place, Value: what they answer. Conditions: the bounds TOk, the memory. -/
import Derived.Test.YtbbpebfgdcidjaaTo
import Derived.Laws.ResultCell
namespace Go.Proofs.Ytbbpebfgdcidjaa.Ta
open Go.RowKit Go.Proofs.Ytbbpebfgdcidjaa.Mem Go.Proofs.Ytbbpebfgdcidjaa.Sl Go.Proofs.Ytbbpebfgdcidjaa.Cl Go.Proofs.Ytbbpebfgdcidjaa.App Go.Shelf
open Go.Proofs.Ytbbpebfgdcidjaa.FnL (enc_at below_then)
set_option linter.unusedVariables false

theorem results_cell_tmp_row {P : Program} {fn : Func} {p u : Tmp} {ty : TypeId} (h : fn.results = #[.cell p ty, .tmp u]) (tmps : Array Value) (w : World) (g : Nat) (t : TypeId) (cs : Array Value) (fr : Nat × Nat) (d : TypeDesc)
    (hp : tmps.getD p undef = .pointer (some ⟨g, 0, none⟩)) (hg : w.heap[g]? = some (.cells cs t fr))
    (hu : P.underlying ty = some d) (hd : (match d with | .struct _ | .array _ _ => true | _ => false) = true) (hi : (P.info? ty).map (·.size) = some cs.size) :
    (results fn tmps).run P w = .ok (.tuple #[.agg cs, tmps.getD u undef]) w := by
  rw [results_cell_tmp h, hp]
  simp [asAddr, run_loadVar_row w g t ty cs fr d hg hu hd hi]
theorem vars_any {base g : Nat} {m : TM} {q : TQ} {w : World} (h : TrS w base g m q) (ok : TOk m) : Calls Try.prog 28 #[.pointer (some ⟨g, 0, none⟩)] w fun e w' => e = .returned (.int .i64 (m.N : Int)) ∧ w' = w := by
  have q1 : w.cell? ⟨g, 1, none⟩ = some (.slice (some ⟨q.gs, 0, none⟩) (m.N + 1) (m.N + 1)) := h.blk.cell 1
  have hN := ok.N
  have e1 : IntKind.i64.wrap (((m.N + 1 : Nat) : Int) - 1) = (m.N : Int) := by rw [IntWalk.i64_in _ (by omega)]; omega
  have e2 : IntKind.i64.wrap ((m.N : Int) + 1 - 1) = (m.N : Int) := by rw [IntWalk.i64_in _ (by omega)]; omega
  clear h ok
  generalize m.N = N at *
  go_enter Try.func28, Try.ntmps28
  go_wp2
  go_ret
  exact ⟨by first | rfl | simp_all, rfl⟩
theorem vars_nil (w : World) : Calls Try.prog 28 #[.pointer none] w fun e w' => e = .returned (.int .i64 0) ∧ w' = w := by
  go_enter Try.func28, Try.ntmps28
  go_wp2
  go_ret
  exact ⟨rfl, rfl⟩
theorem levels_any {base g : Nat} {m : TM} {q : TQ} {w : World} (h : TrS w base g m q) : Calls Try.prog 11 #[.pointer (some ⟨g, 0, none⟩)] w fun e w' => e = .returned (.int .i64 (m.starts.length : Nat)) ∧ w' = w := by
  have q1 : w.cell? ⟨g, 2, none⟩ = some (.slice q.tA m.starts.length q.tc) := h.blk.cell 2
  clear h
  go_enter Try.func11, Try.ntmps11
  go_wp2
  go_ret
  exact ⟨rfl, rfl⟩
theorem levels_nil (w : World) : Calls Try.prog 11 #[.pointer none] w fun e w' => e = .returned (.int .i64 0) ∧ w' = w := by
  go_enter Try.func11, Try.ntmps11
  go_wp2
  go_ret
  exact ⟨rfl, rfl⟩
theorem len_any {base g : Nat} {m : TM} {q : TQ} {w : World} (h : TrS w base g m q) : Calls Try.prog 29 #[.pointer (some ⟨g, 0, none⟩)] w fun e w' => e = .returned (.int .i64 (m.lits.length : Nat)) ∧ w' = w := by
  have q1 : w.cell? ⟨g, 0, none⟩ = some (.slice q.lA m.lits.length q.lc) := h.blk.cell 0
  clear h
  go_enter Try.func29, Try.ntmps29
  go_wp2
  go_ret
  exact ⟨rfl, rfl⟩
theorem len_nil (w : World) : Calls Try.prog 29 #[.pointer none] w fun e w' => e = .returned (.int .i64 0) ∧ w' = w := by
  go_enter Try.func29, Try.ntmps29
  go_wp2
  go_ret
  exact ⟨rfl, rfl⟩
theorem lits_any {base g : Nat} {m : TM} {q : TQ} {w : World} (h : TrS w base g m q) (ok : TOk m) : Calls Try.prog 12 #[.pointer (some ⟨g, 0, none⟩)] w fun e w' => ∃ A c, e = .returned (.slice A m.lits.length c) ∧ Own w' w.heap.size 30 A m.lits.length c (LI m.lits) ∧ Below w.heap.size w w' := by
  have q1 : w.cell? ⟨g, 0, none⟩ = some (.slice q.lA m.lits.length q.lc) := h.blk.cell 0
  have HC := Lib.hid (clone_any (w := w) q.lA m.lits.length q.lc m.lits rfl h.lits.rd ok.ln)
  clear h ok
  go_enter Try.func12, Try.ntmps12
  go_wp2_with fail
  refine HC.out.mono ?_
  rintro e w1 ⟨A, c, rfl, hO, hb⟩
  have HO := Lib.hid hO
  have HB := Lib.hid hb
  clear hO hb
  go_wp2
  go_ret
  exact ⟨A, c, rfl, HO.out, HB.out⟩
theorem lits_nil (w : World) : Calls Try.prog 12 #[.pointer none] w fun e w' => e = .returned (.slice none 0 0) ∧ w' = w := by
  go_enter Try.func12, Try.ntmps12
  go_wp2
  go_ret
  exact ⟨rfl, rfl⟩
def hasM (m : TM) (v : Int) : Bool := decide (1 ≤ v) && (decide (v ≤ m.N) && !decide ((m.sp v.toNat).1 = 0))
def spotM (m : TM) (v : Int) : Int × Int × Int := if hasM m v then m.sp v.toNat else (0, 0, 0)
theorem spot_nil (v : Int) (w : World) : Calls Try.prog 33 #[.pointer none, .int .i64 v] w fun e w' => e = .returned (.tuple #[.agg #[.int .i64 0, .int .i64 0, .int .i64 0], .bool false]) ∧ Below w.heap.size w w' := by
  go_enter Try.func33, Try.ntmps33
  go_upto_region 1 with (fail)
  obtain ⟨W0, hW0⟩ : ∃ W0, W0 = w.alloc (.cells #[.int .i64 0, .int .i64 0, .int .i64 0] 67) := ⟨_, rfl⟩
  rw [← hW0]
  have HB0 := Lib.hid (show Below w.heap.size w W0 from hW0 ▸ ((Below.refl _ w).alloc (Nat.le_refl _) _))
  have K0 := Lib.hid (show Blk W0 w.heap.size 67 #[.int .i64 0, .int .i64 0, .int .i64 0] from hW0 ▸ Blk.new w _ _)
  clear hW0
  generalize hg0 : w.heap.size = B at *
  have c0 : W0.cell? ⟨B, 0, none⟩ = some (.int .i64 0) := K0.out.cell 0
  have c1 : W0.cell? ⟨B, 1, none⟩ = some (.int .i64 0) := K0.out.cell 1
  have c2 : W0.cell? ⟨B, 2, none⟩ = some (.int .i64 0) := K0.out.cell 2
  have f0 : W0.frozen? ⟨B, 0, none⟩ = false := K0.out.frozen 0
  have f1 : W0.frozen? ⟨B, 1, none⟩ = false := K0.out.frozen 1
  have f2 : W0.frozen? ⟨B, 2, none⟩ = false := K0.out.frozen 2
  have HBE := Lib.hid hg0
  clear hg0
  go_wp2
  have E1 : ((((W0.setCell ⟨B, 0, none⟩ (.int .i64 0)).setCell ⟨B, 1, none⟩ (.int .i64 0)).setCell ⟨B, 2, none⟩ (.int .i64 0))).heap[B]? = some (.cells #[.int .i64 0, .int .i64 0, .int .i64 0] 67 (0, 0)) := by
    have := ((K0.out.set_ 0 (.int .i64 0)).set_ 1 (.int .i64 0)).set_ 2 (.int .i64 0)
    simpa [Blk] using this
  (try simp only [Exit.inBlock, Exit.then])
  refine bodyPost_ret (results_cell_tmp_row (ty := 67) rfl _ _ B 67 _ (0, 0) _ rfl E1 Try.underlying67 rfl (by kernel_rfl)) rfl ?_
  exact ⟨rfl, by rw [HBE.out]; exact ((HB0.out.setCell (p := ⟨B, 0, none⟩) (Nat.le_refl _) _).setCell (p := ⟨B, 1, none⟩) (Nat.le_refl _) _).setCell (p := ⟨B, 2, none⟩) (Nat.le_refl _) _⟩
theorem spot_any {base g : Nat} {m : TM} {q : TQ} {w : World} (h : TrS w base g m q) (ok : TOk m) (v : Int) : Calls Try.prog 33 #[.pointer (some ⟨g, 0, none⟩), .int .i64 v] w fun e w' => e = .returned (.tuple #[.agg #[.int .i64 (spotM m v).1, .int .i64 (spotM m v).2.1, .int .i64 (spotM m v).2.2], .bool (hasM m v)]) ∧ Below w.heap.size w w' := by
  have HE := Lib.hid (show hasM m v = (decide (1 ≤ v) && (decide (v ≤ m.N) && !decide ((m.sp v.toNat).1 = 0))) from rfl)
  have HNO := Lib.hid (show hasM m v = false → spotM m v = (0, 0, 0) ∧ hasM m v = false from fun h => ⟨by unfold spotM; rw [h]; rfl, h⟩)
  have HYES := Lib.hid (show hasM m v = true → spotM m v = m.sp v.toNat ∧ hasM m v = true from fun h => ⟨by unfold spotM; rw [h]; rfl, h⟩)
  have H := Lib.hid h
  have hN := ok.N
  have HS := Lib.hid (fun (hv : v.toNat ≤ m.N) (W : World) (hb : Below w.heap.size w W) => (h.below hb).spots.cell hv)
  have HQ := Lib.hid (fun (W : World) (hb : Below w.heap.size w W) => (show W.cell? ⟨g, 1, none⟩ = some (.slice (some ⟨q.gs, 0, none⟩) (m.N + 1) (m.N + 1)) from (h.below hb).blk.cell 1))
  clear h ok
  generalize hgm : m.N = N at *
  clear hgm
  go_enter Try.func33, Try.ntmps33
  go_upto_region 1 with (fail)
  obtain ⟨W0, hW0⟩ : ∃ W0, W0 = w.alloc (.cells #[.int .i64 0, .int .i64 0, .int .i64 0] 67) := ⟨_, rfl⟩
  rw [← hW0]
  have HB0 := Lib.hid (show Below w.heap.size w W0 from hW0 ▸ ((Below.refl _ w).alloc (Nat.le_refl _) _))
  have K0 := Lib.hid (show Blk W0 w.heap.size 67 #[.int .i64 0, .int .i64 0, .int .i64 0] from hW0 ▸ Blk.new w _ _)
  have q1 := HQ.out W0 HB0.out
  clear hW0
  generalize hg0 : w.heap.size = B at *
  have c0 : W0.cell? ⟨B, 0, none⟩ = some (.int .i64 0) := K0.out.cell 0
  have c1 : W0.cell? ⟨B, 1, none⟩ = some (.int .i64 0) := K0.out.cell 1
  have c2 : W0.cell? ⟨B, 2, none⟩ = some (.int .i64 0) := K0.out.cell 2
  have f0 : W0.frozen? ⟨B, 0, none⟩ = false := K0.out.frozen 0
  have f1 : W0.frozen? ⟨B, 1, none⟩ = false := K0.out.frozen 1
  have f2 : W0.frozen? ⟨B, 2, none⟩ = false := K0.out.frozen 2
  have HBE := Lib.hid hg0
  clear hg0
  by_cases p1 : v < 1
  · have HR := Lib.hid (HNO.out (by rw [HE.out, decide_eq_false (show ¬ 1 ≤ v by omega)]; rfl))
    go_wp2
    have E1 : (((W0.setCell ⟨B, 0, none⟩ (.int .i64 0)).setCell ⟨B, 1, none⟩ (.int .i64 0)).setCell ⟨B, 2, none⟩ (.int .i64 0)).heap[B]? = some (.cells #[.int .i64 0, .int .i64 0, .int .i64 0] 67 (0, 0)) := by
      have := ((K0.out.set_ 0 (.int .i64 0)).set_ 1 (.int .i64 0)).set_ 2 (.int .i64 0)
      simpa [Blk] using this
    (try simp only [Exit.inBlock, Exit.then])
    refine bodyPost_ret (results_cell_tmp_row (ty := 67) rfl _ _ B 67 _ (0, 0) _ rfl E1 Try.underlying67 rfl (by kernel_rfl)) rfl ?_
    exact ⟨by rw [HR.out.1, HR.out.2]; rfl, by rw [HBE.out]; exact ((HB0.out.setCell (p := ⟨B, 0, none⟩) (Nat.le_refl _) _).setCell (p := ⟨B, 1, none⟩) (Nat.le_refl _) _).setCell (p := ⟨B, 2, none⟩) (Nat.le_refl _) _⟩
  · by_cases p2 : (N : Int) + 1 ≤ v
    · have HR := Lib.hid (HNO.out (by rw [HE.out, decide_eq_false (show ¬ v ≤ (N : Int) by omega)]; simp))
      go_wp2
      have E1 : (((W0.setCell ⟨B, 0, none⟩ (.int .i64 0)).setCell ⟨B, 1, none⟩ (.int .i64 0)).setCell ⟨B, 2, none⟩ (.int .i64 0)).heap[B]? = some (.cells #[.int .i64 0, .int .i64 0, .int .i64 0] 67 (0, 0)) := by
        have := ((K0.out.set_ 0 (.int .i64 0)).set_ 1 (.int .i64 0)).set_ 2 (.int .i64 0)
        simpa [Blk] using this
      (try simp only [Exit.inBlock, Exit.then])
      refine bodyPost_ret (results_cell_tmp_row (ty := 67) rfl _ _ B 67 _ (0, 0) _ rfl E1 Try.underlying67 rfl (by kernel_rfl)) rfl ?_
      exact ⟨by rw [HR.out.1, HR.out.2]; rfl, by rw [HBE.out]; exact ((HB0.out.setCell (p := ⟨B, 0, none⟩) (Nat.le_refl _) _).setCell (p := ⟨B, 1, none⟩) (Nat.le_refl _) _).setCell (p := ⟨B, 2, none⟩) (Nat.le_refl _) _⟩
    · obtain ⟨d0, d1, d2⟩ := HS.out (by omega) W0 HB0.out
      have hv0 : (0 : Int) ≤ v := by omega
      have hv2 : v < (N : Int) + 1 := by omega
      rw [decide_eq_true (show 1 ≤ v by omega), decide_eq_true (show v ≤ (N : Int) by omega), Bool.true_and, Bool.true_and] at HE
      generalize m.sp v.toNat = s at *
      obtain ⟨sa, sb, sc⟩ := s
      dsimp only at d0 d1 d2 HE
      by_cases p3 : sa = 0
      · have HR := Lib.hid (HNO.out (by rw [HE.out, decide_eq_true p3]; rfl))
        subst p3
        go_wp2
        have E1 : (((W0.setCell ⟨B, 0, none⟩ (.int .i64 0)).setCell ⟨B, 1, none⟩ (.int .i64 0)).setCell ⟨B, 2, none⟩ (.int .i64 0)).heap[B]? = some (.cells #[.int .i64 0, .int .i64 0, .int .i64 0] 67 (0, 0)) := by
          have := ((K0.out.set_ 0 (.int .i64 0)).set_ 1 (.int .i64 0)).set_ 2 (.int .i64 0)
          simpa [Blk] using this
        (try simp only [Exit.inBlock, Exit.then])
        refine bodyPost_ret (results_cell_tmp_row (ty := 67) rfl _ _ B 67 _ (0, 0) _ rfl E1 Try.underlying67 rfl (by kernel_rfl)) rfl ?_
        exact ⟨by rw [HR.out.1, HR.out.2]; rfl, by rw [HBE.out]; exact ((HB0.out.setCell (p := ⟨B, 0, none⟩) (Nat.le_refl _) _).setCell (p := ⟨B, 1, none⟩) (Nat.le_refl _) _).setCell (p := ⟨B, 2, none⟩) (Nat.le_refl _) _⟩
      · have HR := Lib.hid (HYES.out (by rw [HE.out, decide_eq_false p3]; rfl))
        have p4 : (sa == 0) = false := by simpa using p3
        go_wp2
        have E1 : (((W0.setCell ⟨B, 0, none⟩ (.int .i64 sa)).setCell ⟨B, 1, none⟩ (.int .i64 sb)).setCell ⟨B, 2, none⟩ (.int .i64 sc)).heap[B]? = some (.cells #[.int .i64 sa, .int .i64 sb, .int .i64 sc] 67 (0, 0)) := by
          have := ((K0.out.set_ 0 (.int .i64 sa)).set_ 1 (.int .i64 sb)).set_ 2 (.int .i64 sc)
          simpa [Blk] using this
        (try simp only [Exit.inBlock, Exit.then])
        refine bodyPost_ret (results_cell_tmp_row (ty := 67) rfl _ _ B 67 _ (0, 0) _ rfl E1 Try.underlying67 rfl (by kernel_rfl)) rfl ?_
        exact ⟨by rw [HR.out.1, HR.out.2]; rfl, by rw [HBE.out]; exact ((HB0.out.setCell (p := ⟨B, 0, none⟩) (Nat.le_refl _) _).setCell (p := ⟨B, 1, none⟩) (Nat.le_refl _) _).setCell (p := ⟨B, 2, none⟩) (Nat.le_refl _) _⟩
end Go.Proofs.Ytbbpebfgdcidjaa.Ta
