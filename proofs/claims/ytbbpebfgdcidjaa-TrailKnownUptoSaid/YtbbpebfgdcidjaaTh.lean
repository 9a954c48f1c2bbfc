/- TrailNone at whatever memory. -/
import Derived.Test.YtbbpebfgdcidjaaTg
import Derived.Test.YtbbpebfgdcidjaaTj
namespace Go.Proofs.Ytbbpebfgdcidjaa.Ta
open Go.RowKit Go.Proofs.Ytbbpebfgdcidjaa.Mem Go.Proofs.Ytbbpebfgdcidjaa.Sl Go.Proofs.Ytbbpebfgdcidjaa.Cl Go.Proofs.Ytbbpebfgdcidjaa.App Go.Shelf
open Go.Proofs.Ytbbpebfgdcidjaa.FnL (enc_at below_then)
set_option linter.unusedVariables false

set_option maxRecDepth 100000 in
set_option maxHeartbeats 4000000 in
theorem none_walk {w : World} (s : St) (hs : StOk w.heap.size w s) : Calls Try.prog 5 #[.agg #[.int .i64 s.k, .int .i32 s.l, .int .i64 s.n, .slice s.A s.tn s.tc]] w fun e w' => e = .returned (.bool true) ∧ Below w.heap.size w w' := by
  obtain ⟨hl1, hl2⟩ := hs.lb
  have htn : (0 : Int) ≤ (s.tn : Int) := Int.natCast_nonneg _
  clear hs
  generalize s.k = sk at *
  generalize s.l = sl at *
  generalize s.n = sn at *
  generalize s.A = sA at *
  generalize s.tn = stn at *
  generalize s.tc = stc at *
  obtain ⟨W0, hW0⟩ : ∃ W0, W0 = w.alloc (.cells #[.int .i64 sk, .int .i32 sl, .int .i64 sn, .slice sA stn stc] 33) := ⟨_, rfl⟩
  have HB0 := Lib.hid (show Below w.heap.size w W0 from hW0 ▸ (Below.refl _ _).alloc (Nat.le_refl _) _)
  have HS0 := Lib.hid (show w.heap.size < W0.heap.size by rw [hW0]; simp)
  have HK0 := Lib.hid (show Blk W0 w.heap.size 33 #[.int .i64 sk, .int .i32 sl, .int .i64 sn, .slice sA stn stc] from hW0 ▸ Blk.new w _ _)
  have HW0 := Lib.hid hW0
  clear hW0
  have c1 : W0.cell? ⟨w.heap.size, 1, none⟩ = some (.int .i32 sl) := HK0.out.cell 1
  have c2 : W0.cell? ⟨w.heap.size, 2, none⟩ = some (.int .i64 sn) := HK0.out.cell 2
  have c3 : W0.cell? ⟨w.heap.size, 3, none⟩ = some (.slice sA stn stc) := HK0.out.cell 3
  go_enter Try.func5, Try.ntmps5
  go_upto_region 1 with (fail)
  rw [← HW0.out]
  go_wp2_with fail
  refine (back_nil _ _).mono ?_
  rintro e W1 ⟨rfl, hb⟩
  have HB1 := Lib.hid (below_then HB0.out hb HB0.out.size)
  have HK1 := Lib.hid (HK0.out.below hb)
  clear hb c1 c2 c3 HB0 HK0
  have c1 : W1.cell? ⟨w.heap.size, 1, none⟩ = some (.int .i32 sl) := HK1.out.cell 1
  have c2 : W1.cell? ⟨w.heap.size, 2, none⟩ = some (.int .i64 sn) := HK1.out.cell 2
  have c3 : W1.cell? ⟨w.heap.size, 3, none⟩ = some (.slice sA stn stc) := HK1.out.cell 3
  go_wp2_with fail
  refine (next_nil _).mono ?_
  rintro e W2 ⟨rfl, hb⟩
  have HB2 := Lib.hid (below_then HB1.out hb HB1.out.size)
  have HK2 := Lib.hid (HK1.out.below hb)
  clear hb c1 c2 c3 HB1 HK1
  have c1 : W2.cell? ⟨w.heap.size, 1, none⟩ = some (.int .i32 sl) := HK2.out.cell 1
  have c2 : W2.cell? ⟨w.heap.size, 2, none⟩ = some (.int .i64 sn) := HK2.out.cell 2
  have c3 : W2.cell? ⟨w.heap.size, 3, none⟩ = some (.slice sA stn stc) := HK2.out.cell 3
  go_wp2_with fail
  refine (model_nil _).mono ?_
  rintro e W3 ⟨rfl, hb⟩
  have HB3 := Lib.hid (below_then HB2.out hb HB2.out.size)
  have HK3 := Lib.hid (HK2.out.below hb)
  clear hb c1 c2 c3 HB2 HK2
  have c1 : W3.cell? ⟨w.heap.size, 1, none⟩ = some (.int .i32 sl) := HK3.out.cell 1
  have c2 : W3.cell? ⟨w.heap.size, 2, none⟩ = some (.int .i64 sn) := HK3.out.cell 2
  have c3 : W3.cell? ⟨w.heap.size, 3, none⟩ = some (.slice sA stn stc) := HK3.out.cell 3
  go_wp2_with fail
  refine (Var_any sl hl1 hl2 _).mono ?_
  rintro e W3' ⟨rfl, rfl⟩
  go_wp2_with fail
  refine (decide_nil _ _).mono ?_
  rintro e W3' ⟨rfl, rfl⟩
  go_wp2_with fail
  refine (assign_nil _ _ _).mono ?_
  rintro e W3' ⟨rfl, rfl⟩
  go_wp2_with fail
  refine (move_nil _ _).mono ?_
  rintro e W4 ⟨rfl, hb⟩
  have HB4 := Lib.hid (below_then HB3.out hb HB3.out.size)
  have HK4 := Lib.hid (HK3.out.below hb)
  clear hb c1 c2 c3 HB3 HK3
  have c1 : W4.cell? ⟨w.heap.size, 1, none⟩ = some (.int .i32 sl) := HK4.out.cell 1
  have c2 : W4.cell? ⟨w.heap.size, 2, none⟩ = some (.int .i64 sn) := HK4.out.cell 2
  have c3 : W4.cell? ⟨w.heap.size, 3, none⟩ = some (.slice sA stn stc) := HK4.out.cell 3
  go_wp2_with fail
  refine (vars_nil _).mono ?_
  rintro e W4' ⟨rfl, rfl⟩
  go_wp2_with fail
  refine (levels_nil _).mono ?_
  rintro e W4' ⟨rfl, rfl⟩
  go_wp2_with fail
  refine (lits_nil _).mono ?_
  rintro e W4' ⟨rfl, rfl⟩
  go_wp2_with fail
  refine (len_nil _).mono ?_
  rintro e W4' ⟨rfl, rfl⟩
  go_wp2_with fail
  refine (Value_nil sl hl1 hl2 _).mono ?_
  rintro e W5 ⟨rfl, hb⟩
  have HB5 := Lib.hid (below_then HB4.out hb HB4.out.size)
  have HK5 := Lib.hid (HK4.out.below hb)
  clear hb c1 c2 c3 HB4 HK4
  have c1 : W5.cell? ⟨w.heap.size, 1, none⟩ = some (.int .i32 sl) := HK5.out.cell 1
  have c2 : W5.cell? ⟨w.heap.size, 2, none⟩ = some (.int .i64 sn) := HK5.out.cell 2
  have c3 : W5.cell? ⟨w.heap.size, 3, none⟩ = some (.slice sA stn stc) := HK5.out.cell 3
  go_wp2_with fail
  refine (Level_nil _ _).mono ?_
  rintro e W6 ⟨rfl, hb⟩
  have HB6 := Lib.hid (below_then HB5.out hb HB5.out.size)
  have HK6 := Lib.hid (HK5.out.below hb)
  clear hb c1 c2 c3 HB5 HK5
  have c1 : W6.cell? ⟨w.heap.size, 1, none⟩ = some (.int .i32 sl) := HK6.out.cell 1
  have c2 : W6.cell? ⟨w.heap.size, 2, none⟩ = some (.int .i64 sn) := HK6.out.cell 2
  have c3 : W6.cell? ⟨w.heap.size, 3, none⟩ = some (.slice sA stn stc) := HK6.out.cell 3
  go_wp2_with fail
  refine (Reason_nil _ _).mono ?_
  rintro e W7 ⟨rfl, hb⟩
  have HB7 := Lib.hid (below_then HB6.out hb HB6.out.size)
  have HK7 := Lib.hid (HK6.out.below hb)
  clear hb c1 c2 c3 HB6 HK6
  have c1 : W7.cell? ⟨w.heap.size, 1, none⟩ = some (.int .i32 sl) := HK7.out.cell 1
  have c2 : W7.cell? ⟨w.heap.size, 2, none⟩ = some (.int .i64 sn) := HK7.out.cell 2
  have c3 : W7.cell? ⟨w.heap.size, 3, none⟩ = some (.slice sA stn stc) := HK7.out.cell 3
  go_wp2_with fail
  refine (Place_nil _ _).mono ?_
  rintro e W8 ⟨rfl, hb⟩
  have HB8 := Lib.hid (below_then HB7.out hb HB7.out.size)
  have HK8 := Lib.hid (HK7.out.below hb)
  clear hb c1 c2 c3 HB7 HK7
  have c1 : W8.cell? ⟨w.heap.size, 1, none⟩ = some (.int .i32 sl) := HK8.out.cell 1
  have c2 : W8.cell? ⟨w.heap.size, 2, none⟩ = some (.int .i64 sn) := HK8.out.cell 2
  have c3 : W8.cell? ⟨w.heap.size, 3, none⟩ = some (.slice sA stn stc) := HK8.out.cell 3
  go_wp2_with fail
  refine (works_any _).mono ?_
  rintro e W9 ⟨rfl, hb⟩
  have HB9 := Lib.hid (below_then HB8.out hb HB8.out.size)
  have HK9 := Lib.hid (HK8.out.below hb)
  clear hb c1 c2 c3 HB8 HK8
  have c1 : W9.cell? ⟨w.heap.size, 1, none⟩ = some (.int .i32 sl) := HK9.out.cell 1
  have c2 : W9.cell? ⟨w.heap.size, 2, none⟩ = some (.int .i64 sn) := HK9.out.cell 2
  have c3 : W9.cell? ⟨w.heap.size, 3, none⟩ = some (.slice sA stn stc) := HK9.out.cell 3
  go_wp2
  go_ret
  exact ⟨rfl, HB9.out⟩
end Go.Proofs.Ytbbpebfgdcidjaa.Ta
