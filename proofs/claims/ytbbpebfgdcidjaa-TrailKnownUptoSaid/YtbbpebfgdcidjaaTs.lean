/- Trail: Level, Reason, Place, Value: what they answer. Conditions: the bounds TOk, the memory. -/
import Derived.Test.YtbbpebfgdcidjaaTq
namespace Go.Proofs.Ytbbpebfgdcidjaa.Ta
open Go.RowKit Go.Proofs.Ytbbpebfgdcidjaa.Mem Go.Proofs.Ytbbpebfgdcidjaa.Sl Go.Proofs.Ytbbpebfgdcidjaa.Cl Go.Proofs.Ytbbpebfgdcidjaa.App Go.Shelf
open Go.Proofs.Ytbbpebfgdcidjaa.FnL (enc_at below_then)
set_option linter.unusedVariables false

theorem spot_bd {m : TM} (ok : TOk m) (v : Int) : 0 ≤ (spotM m v).1 ∧ (spotM m v).1 ≤ 1000000 := by
  unfold spotM
  split
  · rename_i h
    unfold hasM at h
    simp only [Bool.and_eq_true, decide_eq_true_eq] at h
    have := ok.sp v.toNat (by omega)
    have := ok.ln
    omega
  · simp
theorem spot_pos {m : TM} (ok : TOk m) {v : Int} (h : hasM m v = true) : 1 ≤ (spotM m v).1 ∧ (spotM m v).1 ≤ (m.lits.length : Int) := by
  unfold spotM
  rw [if_pos h]
  unfold hasM at h
  simp only [Bool.and_eq_true, decide_eq_true_eq, Bool.not_eq_true', decide_eq_false_iff_not] at h
  have := ok.sp v.toNat (by omega)
  omega
theorem Place_any {base g : Nat} {m : TM} {q : TQ} {w : World} (h : TrS w base g m q) (ok : TOk m) (v : Int) : Calls Try.prog 15 #[.pointer (some ⟨g, 0, none⟩), .int .i64 v] w fun e w' => e = .returned (.int .i64 (placeM m v)) ∧ Below w.heap.size w w' := by
  have hb := spot_bd ok v
  have hs := spot_any h ok v
  have HE := Lib.hid (show placeM m v = if hasM m v then (spotM m v).1 - 1 else -1 from rfl)
  cases hh : hasM m v with
  | true =>
    rw [hh] at hs
    have HR := Lib.hid (HE.out.trans (if_pos hh))
    have HC := Lib.hid (of_some (w := w) (.pointer (some ⟨g, 0, none⟩)) v 35 (enters_of Try.func35 (by kernel_rfl) rfl) _ _ _ ((spotM m v).1 - 1) hs (fun W => thePlace_any _ _ _ hb.1 hb.2 W))
    clear hs hh h ok hb
    generalize (spotM m v).1 - 1 = x at *
    go_enter Try.func15, Try.ntmps15
    go_wp2_with fail
    refine HC.out.mono ?_
    rintro e w1 ⟨rfl, hb1⟩
    have HB1 := Lib.hid hb1
    clear hb1
    go_wp2
    go_ret
    exact ⟨by rw [HR.out]; rfl, HB1.out⟩
  | false =>
    rw [hh] at hs
    have HR := Lib.hid (HE.out.trans (if_neg (by rw [hh]; decide)))
    have HC := Lib.hid (of_none (w := w) (.pointer (some ⟨g, 0, none⟩)) v 35 _ _ _ hs)
    clear hs hh h ok hb
    go_enter Try.func15, Try.ntmps15
    go_wp2_with fail
    refine HC.out.mono ?_
    rintro e w1 ⟨rfl, hb1⟩
    have HB1 := Lib.hid hb1
    clear hb1
    go_wp2
    go_ret
    exact ⟨by rw [HR.out]; rfl, HB1.out⟩
theorem Place_nil (v : Int) (w : World) : Calls Try.prog 15 #[.pointer none, .int .i64 v] w fun e w' => e = .returned (.int .i64 (-1)) ∧ Below w.heap.size w w' := by
  have HC := Lib.hid (of_none (w := w) (.pointer none) v 35 _ _ _ (spot_nil v w))
  go_enter Try.func15, Try.ntmps15
  go_wp2_with fail
  refine HC.out.mono ?_
  rintro e w1 ⟨rfl, hb1⟩
  have HB1 := Lib.hid hb1
  clear hb1
  go_wp2
  go_ret
  exact ⟨rfl, HB1.out⟩
theorem Level_any {base g : Nat} {m : TM} {q : TQ} {w : World} (h : TrS w base g m q) (ok : TOk m) (v : Int) : Calls Try.prog 16 #[.pointer (some ⟨g, 0, none⟩), .int .i64 v] w fun e w' => e = .returned (.int .i64 (levelM m v)) ∧ Below w.heap.size w w' := by
  have hb := spot_bd ok v
  have hs := spot_any h ok v
  have HE := Lib.hid (show levelM m v = if hasM m v then (spotM m v).2.1 else -1 from rfl)
  cases hh : hasM m v with
  | true =>
    rw [hh] at hs
    have HR := Lib.hid (HE.out.trans (if_pos hh))
    have HC := Lib.hid (of_some (w := w) (.pointer (some ⟨g, 0, none⟩)) v 36 (enters_of Try.func36 (by kernel_rfl) rfl) _ _ _ ((spotM m v).2.1) hs (fun W => theLevel_any _ _ _ W))
    clear hs hh h ok hb
    generalize (spotM m v).2.1 = x at *
    go_enter Try.func16, Try.ntmps16
    go_wp2_with fail
    refine HC.out.mono ?_
    rintro e w1 ⟨rfl, hb1⟩
    have HB1 := Lib.hid hb1
    clear hb1
    go_wp2
    go_ret
    exact ⟨by rw [HR.out]; rfl, HB1.out⟩
  | false =>
    rw [hh] at hs
    have HR := Lib.hid (HE.out.trans (if_neg (by rw [hh]; decide)))
    have HC := Lib.hid (of_none (w := w) (.pointer (some ⟨g, 0, none⟩)) v 36 _ _ _ hs)
    clear hs hh h ok hb
    go_enter Try.func16, Try.ntmps16
    go_wp2_with fail
    refine HC.out.mono ?_
    rintro e w1 ⟨rfl, hb1⟩
    have HB1 := Lib.hid hb1
    clear hb1
    go_wp2
    go_ret
    exact ⟨by rw [HR.out]; rfl, HB1.out⟩
theorem Level_nil (v : Int) (w : World) : Calls Try.prog 16 #[.pointer none, .int .i64 v] w fun e w' => e = .returned (.int .i64 (-1)) ∧ Below w.heap.size w w' := by
  have HC := Lib.hid (of_none (w := w) (.pointer none) v 36 _ _ _ (spot_nil v w))
  go_enter Try.func16, Try.ntmps16
  go_wp2_with fail
  refine HC.out.mono ?_
  rintro e w1 ⟨rfl, hb1⟩
  have HB1 := Lib.hid hb1
  clear hb1
  go_wp2
  go_ret
  exact ⟨rfl, HB1.out⟩
theorem Reason_any {base g : Nat} {m : TM} {q : TQ} {w : World} (h : TrS w base g m q) (ok : TOk m) (v : Int) : Calls Try.prog 30 #[.pointer (some ⟨g, 0, none⟩), .int .i64 v] w fun e w' => e = .returned (.int .i64 (reasonM m v)) ∧ Below w.heap.size w w' := by
  have hb := spot_bd ok v
  have hs := spot_any h ok v
  have HE := Lib.hid (show reasonM m v = if hasM m v then (spotM m v).2.2 else -1 from rfl)
  cases hh : hasM m v with
  | true =>
    rw [hh] at hs
    have HR := Lib.hid (HE.out.trans (if_pos hh))
    have HC := Lib.hid (of_some (w := w) (.pointer (some ⟨g, 0, none⟩)) v 50 (enters_of Try.func50 (by kernel_rfl) rfl) _ _ _ ((spotM m v).2.2) hs (fun W => theReason_any _ _ _ W))
    clear hs hh h ok hb
    generalize (spotM m v).2.2 = x at *
    go_enter Try.func30, Try.ntmps30
    go_wp2_with fail
    refine HC.out.mono ?_
    rintro e w1 ⟨rfl, hb1⟩
    have HB1 := Lib.hid hb1
    clear hb1
    go_wp2
    go_ret
    exact ⟨by rw [HR.out]; rfl, HB1.out⟩
  | false =>
    rw [hh] at hs
    have HR := Lib.hid (HE.out.trans (if_neg (by rw [hh]; decide)))
    have HC := Lib.hid (of_none (w := w) (.pointer (some ⟨g, 0, none⟩)) v 50 _ _ _ hs)
    clear hs hh h ok hb
    go_enter Try.func30, Try.ntmps30
    go_wp2_with fail
    refine HC.out.mono ?_
    rintro e w1 ⟨rfl, hb1⟩
    have HB1 := Lib.hid hb1
    clear hb1
    go_wp2
    go_ret
    exact ⟨by rw [HR.out]; rfl, HB1.out⟩
theorem Reason_nil (v : Int) (w : World) : Calls Try.prog 30 #[.pointer none, .int .i64 v] w fun e w' => e = .returned (.int .i64 (-1)) ∧ Below w.heap.size w w' := by
  have HC := Lib.hid (of_none (w := w) (.pointer none) v 50 _ _ _ (spot_nil v w))
  go_enter Try.func30, Try.ntmps30
  go_wp2_with fail
  refine HC.out.mono ?_
  rintro e w1 ⟨rfl, hb1⟩
  have HB1 := Lib.hid hb1
  clear hb1
  go_wp2
  go_ret
  exact ⟨rfl, HB1.out⟩
def valM (m : TM) (l : Int) : Int := if hasM m (varI l) then (if m.lits.getD ((spotM m (varI l)).1.toNat - 1) 0 = l then 1 else -1) else 0
theorem after_spot (w2 : World) (pa pb pc : Int) : Blk (w2.alloc (.cells #[.int .i64 pa, .int .i64 pb, .int .i64 pc] 67)) w2.heap.size 67 #[.int .i64 pa, .int .i64 pb, .int .i64 pc] ∧ Below w2.heap.size w2 (w2.alloc (.cells #[.int .i64 pa, .int .i64 pb, .int .i64 pc] 67)) :=
  ⟨Blk.new w2 _ _, (Below.refl _ w2).alloc (Nat.le_refl _) _⟩
theorem Value_any {base g : Nat} {m : TM} {q : TQ} {w : World} (h : TrS w base g m q) (ok : TOk m) (l : Int) (h0 : -2147483648 ≤ l) (h1 : l ≤ 2147483647) : Calls Try.prog 14 #[.pointer (some ⟨g, 0, none⟩), .int .i32 l] w fun e w' => e = .returned (.int .i64 (valM m l)) ∧ Below w.heap.size w w' := by
  have HV := Lib.hid (Var_any l h0 h1)
  have HS := Lib.hid (spot_any h ok (varI l))
  have hb := spot_bd ok (varI l)
  have HE := Lib.hid (show valM m l = if hasM m (varI l) then (if m.lits.getD ((spotM m (varI l)).1.toNat - 1) 0 = l then 1 else -1) else 0 from rfl)
  have HPO := Lib.hid (fun (hh : hasM m (varI l) = true) => spot_pos ok hh)
  have H := Lib.hid h
  have hln := ok.ln
  clear h ok
  generalize varI l = v at *
  generalize spotM m v = s at *
  obtain ⟨pa, pb, pc⟩ := s
  dsimp only at HS HE hb HPO
  go_enter Try.func14, Try.ntmps14
  go_wp2_with fail
  refine (HV.out _).mono ?_
  rintro e w1 ⟨rfl, rfl⟩
  go_wp2_with fail
  refine HS.out.mono ?_
  rintro e w2 ⟨rfl, hb2⟩
  have HB2 := Lib.hid hb2
  have H2 := Lib.hid (H.out.below hb2)
  clear hb2 HS HV
  go_upto_region 2 with (fail)
  obtain ⟨W, hW⟩ : ∃ W, W = w2.alloc (.cells #[.int .i64 pa, .int .i64 pb, .int .i64 pc] 67) := ⟨_, rfl⟩
  rw [← hW]
  have HAS := after_spot w2 pa pb pc
  rw [← hW] at HAS
  have K0 := Lib.hid HAS.1
  have HB3 := Lib.hid (below_then HB2.out HAS.2 HB2.out.size)
  have H3 := Lib.hid (H2.out.below HAS.2)
  clear hW HAS
  generalize hgB : w2.heap.size = B at *
  clear hgB
  cases hh : hasM m v with
  | false =>
    have HR := Lib.hid (HE.out.trans (if_neg (by rw [hh]; decide)))
    clear hh
    go_wp2
    go_ret
    exact ⟨by rw [HR.out]; rfl, HB3.out⟩
  | true =>
    have hp := HPO.out hh
    have HR := Lib.hid (HE.out.trans (if_pos hh))
    clear hh
    have q0 : W.cell? ⟨g, 0, none⟩ = some (.slice q.lA m.lits.length q.lc) := H3.out.blk.cell 0
    have c0 : W.cell? ⟨B, 0, none⟩ = some (.int .i64 pa) := K0.out.cell 0
    obtain ⟨gl, hgl, _, hrow⟩ := H3.out.lits.row (by omega)
    rw [hgl] at q0
    have cl : W.cell? ⟨gl, pa.toNat - 1, none⟩ = some (.int .i32 (m.lits.getD (pa.toNat - 1) 0)) := hrow.cell (ints_at (by omega))
    have e1 : IntKind.i64.wrap (pa - 1) = pa - 1 := IntWalk.i64_in _ (by omega)
    have hi1 : (0 : Int) ≤ pa - 1 := by omega
    have hi2 : pa - 1 < (m.lits.length : Int) := by omega
    clear hrow hgl
    generalize m.lits.getD (pa.toNat - 1) 0 = y at *
    generalize m.lits.length = n at *
    by_cases hy : y = l
    · have HR2 := Lib.hid (HR.out.trans (if_pos hy))
      subst hy
      go_wp2_with fail
      go_quiet (fail)
      go_wp2
      go_ret
      exact ⟨by rw [HR2.out]; rfl, belowN HB3.out _⟩
    · have HR2 := Lib.hid (HR.out.trans (if_neg hy))
      have hy2 : (y == l) = false := by simpa using hy
      go_wp2_with fail
      go_quiet (fail)
      go_wp2
      go_ret
      exact ⟨by rw [HR2.out]; rfl, belowN HB3.out _⟩
theorem Value_nil (l : Int) (h0 : -2147483648 ≤ l) (h1 : l ≤ 2147483647) (w : World) : Calls Try.prog 14 #[.pointer none, .int .i32 l] w fun e w' => e = .returned (.int .i64 0) ∧ Below w.heap.size w w' := by
  have HV := Lib.hid (Var_any l h0 h1)
  generalize varI l = v at *
  have HS := Lib.hid (spot_nil v w)
  go_enter Try.func14, Try.ntmps14
  go_wp2_with fail
  refine (HV.out _).mono ?_
  rintro e w1 ⟨rfl, rfl⟩
  go_wp2_with fail
  refine HS.out.mono ?_
  rintro e w2 ⟨rfl, hb2⟩
  have HB2 := Lib.hid hb2
  clear hb2
  go_upto_region 2 with (fail)
  obtain ⟨W, hW⟩ : ∃ W, W = w2.alloc (.cells #[.int .i64 0, .int .i64 0, .int .i64 0] 67) := ⟨_, rfl⟩
  rw [← hW]
  have HAS := after_spot w2 0 0 0
  rw [← hW] at HAS
  have HB3 := Lib.hid (below_then HB2.out HAS.2 HB2.out.size)
  clear hW HAS
  go_wp2
  go_ret
  exact ⟨rfl, HB3.out⟩
end Go.Proofs.Ytbbpebfgdcidjaa.Ta
