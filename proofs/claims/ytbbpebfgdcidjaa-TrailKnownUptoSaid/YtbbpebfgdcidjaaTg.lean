/- Trail: what the models of trails keep, a trail with three literals, works. Plain laws; works at whatever memory. -/
import Derived.Test.YtbbpebfgdcidjaaTf
namespace Go.Proofs.Ytbbpebfgdcidjaa.Ta
open Go.RowKit Go.Proofs.Ytbbpebfgdcidjaa.Mem Go.Proofs.Ytbbpebfgdcidjaa.Sl Go.Proofs.Ytbbpebfgdcidjaa.Cl Go.Proofs.Ytbbpebfgdcidjaa.App Go.Shelf
open Go.Proofs.Ytbbpebfgdcidjaa.FnL (enc_at below_then)
set_option linter.unusedVariables false

theorem putM_ok {m : TM} (ok : TOk m) (hln : m.lits.length ≤ 999999) {l r : Int} (h0 : -2147483648 ≤ l) (h1 : l ≤ 2147483647) (hr : -9223372036854775808 ≤ r) (hr2 : r ≤ 9223372036854775807) (hv1 : 1 ≤ varI l) (hv2 : varI l ≤ m.N) : TOk (putM m l r) := by
  refine ⟨ok.N, by simp [putM]; omega, ok.sn, fun x hx => ?_, fun v hv => ?_, fun n hn => ?_, by have := ok.hd; simp [putM]; omega⟩
  · rcases List.mem_append.1 hx with hx | hx
    · exact ok.lb x hx
    · rw [List.mem_singleton] at hx
      subst hx
      exact ⟨⟨h0, h1⟩, hv1, hv2⟩
  · show 0 ≤ (upd m.sp (varI l).toNat _ v).1 ∧ _
    have := ok.sp v hv
    simp only [putM, upd, List.length_append, List.length_cons, List.length_nil]
    by_cases e : v = (varI l).toNat
    · subst e; simp; omega
    · simp [e]; omega
  · have := ok.st n hn
    simp [putM]; omega
theorem asgM_ok {m : TM} (ok : TOk m) (hln : m.lits.length ≤ 999999) {l r : Int} (h0 : -2147483648 ≤ l) (h1 : l ≤ 2147483647) (hr2 : r ≤ 9223372036854775807) : TOk (asgM m l r) := by
  unfold asgM
  split
  · rename_i h
    obtain ⟨h2, h3, h4, _⟩ := mayE_zero h
    exact putM_ok ok hln h0 h1 (by omega) hr2 (varI_pos h2) h3
  · exact ok
theorem decM_ok {m : TM} (ok : TOk m) (hln : m.lits.length ≤ 999999) (hsn : m.starts.length ≤ 999999) {l : Int} (h0 : -2147483648 ≤ l) (h1 : l ≤ 2147483647) : TOk (decM m l) := by
  unfold decM
  split
  · rename_i h
    obtain ⟨h2, h3, h4, _⟩ := mayE_zero h
    exact putM_ok (lvM_ok ok hsn) hln h0 h1 (by omega) (by omega) (varI_pos h2) h3
  · exact ok
def k1 : TM := asgM (newM 3) 1 (-1)
def k2 : TM := decM k1 (-2)
def k3 : TM := asgM k2 3 7
def k4 : TM := backM k3 0
theorem k_facts : mayE (newM 3) 1 (-1) = 0 ∧ mayE k1 (-2) (-1) = 0 ∧ mayE k2 3 7 = 0 ∧ k1.lits = [1] ∧ k1.starts = [] ∧ k2.lits = [1, -2] ∧ k3.lits = [1, -2, 3] ∧ k3.starts = [1] ∧ k3.N = 3 ∧ modelV k3 = [true, false, true] ∧ goneM k3 0 = [3, -2] ∧ backE k3 0 = 0 ∧ k4.lits = [1] ∧ valM k4 (-1) = -1 := by decide
theorem k1_ok : TOk k1 := asgM_ok (newM_ok (by decide)) (by decide) (by decide) (by decide) (by decide)
theorem k2_ok : TOk k2 := decM_ok k1_ok (by decide) (by decide) (by decide) (by decide)
theorem k3_ok : TOk k3 := asgM_ok k2_ok (by decide) (by decide) (by decide) (by decide)
theorem k4_ok : TOk k4 := by
  have e : k4 = ⟨3, [1], clr k3.sp [3, -2], [], 0⟩ := rfl
  obtain ⟨a, b, c, d, f, g, h⟩ := k3_ok
  rw [e]
  refine ⟨by decide, by decide, by decide, by decide, ?_, by decide, by decide⟩
  show ∀ v, v ≤ 3 → _
  decide
theorem bools_rd {w : World} {t : TypeId} {b : List Bool} : RdV (w.alloc (.cells (b.map Value.bool).toArray t)) (some ⟨w.heap.size, 0, none⟩) (b.map Value.bool) := by
  have := Blk.new w t (b.map Value.bool ++ []).toArray
  simpa using RdV.blk this
theorem lits_rd {w : World} {t : TypeId} {b : List Int} : RdV (w.alloc (.cells (LI b).toArray t)) (some ⟨w.heap.size, 0, none⟩) (LI b) := by
  have := Blk.new w t (LI b ++ []).toArray
  simpa using RdV.blk this
set_option maxRecDepth 100000 in
theorem works_any (w : World) : Calls Try.prog 19 #[] w fun e w' => e = .returned (.bool true) ∧ Below w.heap.size w w' := by
  obtain ⟨f1, f2, f3, f4, f5, f6, f7, f8, f9, f10, f11, f12, f13, f14⟩ := k_facts
  have F1 := Lib.hid f1
  have F2 := Lib.hid f2
  have F3 := Lib.hid f3
  have F7 := Lib.hid f7
  have F8 := Lib.hid f8
  have F9 := Lib.hid f9
  have F10 := Lib.hid f10
  have F11 := Lib.hid f11
  have F12 := Lib.hid f12
  have F13 := Lib.hid f13
  have F14 := Lib.hid f14
  clear f1 f2 f3 f4 f5 f6 f7 f8 f9 f10 f11 f12 f13 f14
  go_enter Try.func19, Try.ntmps19
  go_wp2_with fail
  refine (new_ok 3 (by decide) w).mono ?_
  rintro e w1 ⟨g, q, rfl, h1, hb⟩
  have H1 := Lib.hid h1
  have HB1 := Lib.hid hb
  have HC1 := Lib.hid (assign_any h1 (newM_ok (by decide)) (by decide) 1 (-1) (by decide) (by decide))
  rw [F1.out] at HC1
  clear h1 hb
  go_wp2_with fail
  refine HC1.out.mono ?_
  rintro e w2 ⟨rfl, q2, h2, s2⟩
  have HC2 := Lib.hid (decide_any (m := k1) h2 k1_ok (by decide) (by decide) (-2) (by decide) (by decide))
  rw [F2.out] at HC2
  have S2 := Lib.hid s2
  clear h2 s2 HC1
  go_wp2_with fail
  refine HC2.out.mono ?_
  rintro e w3 ⟨rfl, q3, h3, s3⟩
  have HC3 := Lib.hid (assign_any (m := k2) h3 k2_ok (by decide) 3 7 (by decide) (by decide))
  rw [F3.out] at HC3
  have S3 := Lib.hid (S2.out.trans s3)
  clear h3 s3 HC2 S2
  go_wp2_with fail
  refine HC3.out.mono ?_
  rintro e w4 ⟨rfl, q4, h4, s4⟩
  have S4 := Lib.hid (S3.out.trans s4)
  have H4 := Lib.hid (show TrS w4 w.heap.size g k3 q4 from h4)
  have HB4 := Lib.hid (HB1.out.trans (S4.out.below H1.out HB1.out.size))
  clear h4 s4 HC3 S3 S4
  have HC4 := Lib.hid (model_any H4.out k3_ok)
  go_wp2_with fail
  refine HC4.out.mono ?_
  rintro e w5 ⟨⟨A, c, rfl, hO⟩, hb5⟩
  rw [F10.out] at hO
  have HO := Lib.hid hO
  have HB5 := Lib.hid hb5
  clear hO hb5 HC4
  have HC5 := Lib.hid (back_yes (H4.out.below HB5.out) k3_ok (by rw [F7.out, F8.out]; decide) 0 (by rw [F8.out]; decide))
  go_wp2_with fail
  refine HC5.out.mono ?_
  rintro e w6 ⟨A6, c6, rfl, hO6, h6, s6⟩
  have HS5 := Lib.hid HB5.out.size
  have hb6 := s6.below (H4.out.below HB5.out) (Nat.le_trans HB4.out.size HB5.out.size)
  rw [show ((0 : Nat) : Int) = 0 from rfl, F11.out] at hO6
  have H6 := Lib.hid (show TrS w6 w.heap.size g k4 q4 from h6)
  have S6 := Lib.hid s6
  have HB6 := Lib.hid ((below_then HB4.out HB5.out HB4.out.size).trans hb6)
  have HO6 := Lib.hid hO6
  have HO5 := Lib.hid (HO.out.mod S6.out.md (fun i h1 _ hm => by have := ((H4.out).minB hm).2; omega))
  rw [show ((0 : Nat) : Int) = 0 from rfl, F11.out, F12.out]
  clear h6 s6 hO6 hb6 HC5
  have hN3 := F9.out
  have hL3 : decide (k3.lits.length = k3.N) = true := by rw [F7.out, F9.out]; rfl
  rw [F10.out, hL3]
  go_upto_region 6 with (fail)
  have HA7 := Lib.hid (show Below w6.heap.size w6 (w6.alloc (.cells #[.bool true, .bool false, .bool true] 4)) from (Below.refl _ _).alloc (Nat.le_refl _) _)
  have HC7 := Lib.hid (sameModel_any (w := w6.alloc (.cells #[.bool true, .bool false, .bool true] 4)) A 3 c [true, false, true] rfl (HO5.out.below HA7.out).rd (some ⟨w6.heap.size, 0, none⟩) 3 3 [true, false, true] rfl (bools_rd (b := [true, false, true])) (by decide) (by decide))
  go_wp2_with fail
  refine HC7.out.mono ?_
  rintro e w7 ⟨rfl, hb7⟩
  rw [show ([true, false, true] == [true, false, true]) = true from rfl]
  have HB7 := Lib.hid (below_then HA7.out hb7 HA7.out.size)
  clear hb7 HC7 HA7
  have HO7 := Lib.hid (HO6.out.below HB7.out)
  have H7 := Lib.hid (H6.out.below HB7.out)
  have HB7' := Lib.hid (below_then HB6.out HB7.out HB6.out.size)
  have HA8 := Lib.hid (show Below w7.heap.size w7 (w7.alloc (.cells #[.int .i32 3, .int .i32 (-2)] 30)) from (Below.refl _ _).alloc (Nat.le_refl _) _)
  have HC8 := Lib.hid (sameClause_any (w := w7.alloc (.cells #[.int .i32 3, .int .i32 (-2)] 30)) A6 2 c6 [3, -2] rfl (HO7.out.below HA8.out).rd (some ⟨w7.heap.size, 0, none⟩) 2 2 [3, -2] rfl (lits_rd (b := [3, -2])) (by decide) (by decide))
  go_wp2_with fail
  refine HC8.out.mono ?_
  rintro e w8 ⟨rfl, hb8⟩
  rw [show (([3, -2] : List Int) == [3, -2]) = true from rfl]
  have HB8 := Lib.hid (below_then HA8.out hb8 HA8.out.size)
  clear hb8 HC8 HA8
  have H8 := Lib.hid (H7.out.below HB8.out)
  have HB8' := Lib.hid (below_then HB7'.out HB8.out HB7'.out.size)
  have hk4 : k4.lits.length = 1 := by rw [F13.out]; rfl
  have HC9 := Lib.hid (len_any H8.out)
  rw [hk4] at HC9
  go_wp2_with fail
  refine HC9.out.mono ?_
  rintro e w9 ⟨rfl, rfl⟩
  have HC10 := Lib.hid (Value_any H8.out k4_ok (-1) (by decide) (by decide))
  rw [F14.out] at HC10
  go_wp2_with fail
  refine HC10.out.mono ?_
  rintro e w10 ⟨rfl, hb10⟩
  have HB10 := Lib.hid (below_then HB8'.out hb10 HB8'.out.size)
  clear hb10
  go_wp2
  go_ret
  exact ⟨rfl, HB10.out⟩
end Go.Proofs.Ytbbpebfgdcidjaa.Ta
