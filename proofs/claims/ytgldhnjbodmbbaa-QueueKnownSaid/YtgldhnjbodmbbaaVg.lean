/- The walk of QueueKnown (printed by wip/tools/gen_known13.py). Condition: the memory. -/
import Derived.Test.YtgldhnjbodmbbaaQy
namespace Go.Proofs.Ytgldhnjbodmbbaa.Qu
open Go.RowKit Go.Proofs.Ytgldhnjbodmbbaa.Mem Go.Proofs.Ytgldhnjbodmbbaa.Sl Go.Shelf
open Go.Proofs.Ytgldhnjbodmbbaa.FnL (enc_at below_then)
set_option linter.unusedVariables false

def NxR (w w1 : World) (q : QA) (m : QM) (v : Int) (b : Bool) (e : Ending) (w' : World) : Prop := e = .returned (.tuple #[.int .i64 v, .bool b]) ∧ QL w' w.heap.size q m ∧ Below w.heap.size w w'
def BuR' (w : World) (q : QA) (m : QM) (v : Int) (e : Ending) (w' : World) : Prop := e = .returned (.int .i64 v) ∧ QL w' w.heap.size q m ∧ Below w.heap.size w w'
theorem nx_cells {w w1 : World} {q : QA} {m : QM} (hq : QL w1 w.heap.size q m) (hb : Below w.heap.size w w1) (bs : List Bool) (n : Nat) (hn : n = bs.length) (hmx : n ≤ 4000000) (v : Int) (b : Bool) (h : ((ansN m.row bs : Nat) : Int) = v ∧ decide (ansN m.row bs ≠ 0) = b) :
    Calls Try.prog 16 #[.pointer (some ⟨q.g, 0, none⟩), .slice (some ⟨w1.heap.size, 0, none⟩) n n] (w1.alloc (.cells (bs.map Value.bool).toArray 4)) (NxR w w1 q m v b) :=
  (qnext_ok (hq.below (below_al _ _)) (some ⟨w1.heap.size, 0, none⟩) n n bs hn (new_bs w1 _) hmx).mono fun e w' ⟨h1, h2, h3⟩ => ⟨by rw [h1, h.1, h.2], h2, (hq.below (below_al _ _)).mq_below (hb.trans ((below_al _ _).mono hb.size)) h3⟩
theorem nx_nil {w w1 : World} {q : QA} {m : QM} (hq : QL w1 w.heap.size q m) (hb : Below w.heap.size w w1) (v : Int) (b : Bool) (h : ((ansN m.row [] : Nat) : Int) = v ∧ decide (ansN m.row [] ≠ 0) = b) :
    Calls Try.prog 16 #[.pointer (some ⟨q.g, 0, none⟩), .slice none 0 0] w1 (NxR w w1 q m v b) :=
  (qnext_ok hq none 0 0 [] rfl (RdV.nil _ _) (by decide)).mono fun e w' ⟨h1, h2, h3⟩ => ⟨by rw [h1, h.1, h.2], h2, hq.mq_below hb h3⟩
theorem bu_cells {w w1 : World} {q : QA} {m : QM} (hq : QL w1 w.heap.size q m) (hb : Below w.heap.size w w1) (l : List Int) (n : Nat) (hn : n = l.length) (hmx : n ≤ 1000000) (hmv : m.moved ≤ 999999) (hl : ∀ x, x ∈ l → inI x) (v : Int) (h : bumpE m l = v) :
    Calls Try.prog 12 #[.pointer (some ⟨q.g, 0, none⟩), .slice (some ⟨w1.heap.size, 0, none⟩) n n] (w1.alloc (.cells (LZ l).toArray 3)) (BuR' w q (bumpM m l) v) :=
  (qbump_ok (hq.below (below_al _ _)) hmv (some ⟨w1.heap.size, 0, none⟩) n n l hn (new_is w1 _) hl hmx).mono fun e w' ⟨h1, h2, h3⟩ => ⟨by rw [h1, h], h2, (hq.below (below_al _ _)).mq_below (hb.trans ((below_al _ _).mono hb.size)) h3⟩
theorem bu_nil {w w1 : World} {q : QA} {m : QM} (hq : QL w1 w.heap.size q m) (hb : Below w.heap.size w w1) (hmv : m.moved ≤ 999999) (v : Int) (h : bumpE m [] = v) :
    Calls Try.prog 12 #[.pointer (some ⟨q.g, 0, none⟩), .slice none 0 0] w1 (BuR' w q (bumpM m []) v) :=
  (qbump_ok hq hmv none 0 0 [] rfl (RdV.nil _ _) (fun x hx => by cases hx) (by decide)).mono fun e w' ⟨h1, h2, h3⟩ => ⟨by rw [h1, h], h2, hq.mq_below hb h3⟩
theorem inI_all {l : List Int} (h : l.all (fun x => decide (-100 ≤ x) && decide (x ≤ 100)) = true) : ∀ x, x ∈ l → inI x := fun x hx => by
  have := List.all_eq_true.1 h x hx
  simp only [Bool.and_eq_true, decide_eq_true_eq] at this
  unfold inI; omega
set_option maxRecDepth 100000 in
set_option maxHeartbeats 8000000 in
theorem known_walk (w : World) : Calls Try.prog 7 #[] w fun e w' => e = .returned (.bool true) ∧ Below w.heap.size w w' := by
  have HN := Lib.hid (show ∀ W, Calls Try.prog 10 #[.int .i64 5] W (QNewR W 5) from fun W => qnew_ok 5 (by decide) W)
  have HN0 := Lib.hid (show ∀ W, Calls Try.prog 10 #[.int .i64 0] W (QNewR W 0) from fun W => qnew_ok 0 (by decide) W)
  have HNM := Lib.hid (fun W => new_bad (-1) (by decide) W)
  have HNX := Lib.hid (fun W => new_bad 1048577 (by decide) W)
  go_enter Try.func7, Try.ntmps7
  go_wp2_with fail
  refine (HN.out _).mono ?_
  rintro e w1 ⟨q, rfl, hq, hb⟩
  obtain ⟨m1, hm1⟩ : ∃ m, m = newQ 5 := ⟨_, rfl⟩
  rw [← hm1] at hq
  have HM1 := Lib.hid hm1
  have HQ1 := Lib.hid hq
  have HB1 := Lib.hid hb
  clear hq hb hm1
  have HX := Lib.hid (nx_nil HQ1.out HB1.out 5 true ⟨by rw [HM1.out]; decide, by rw [HM1.out]; decide⟩)
  go_wp2_with fail
  refine HX.out.mono ?_
  rintro e w2 ⟨rfl, hq, hb⟩
  have HQ2 := Lib.hid hq
  have HB2 := Lib.hid hb
  clear hq hb HX HQ1 HB1
  have HX := Lib.hid (bu_cells HQ2.out HB2.out [2, 4] 2 rfl (by decide) (by rw [HM1.out]; decide) (inI_all (by decide)) 0 (by rw [HM1.out]; decide))
  simp only [LZ, List.map_cons, List.map_nil] at HX
  go_wp2_with fail
  refine HX.out.mono ?_
  rintro e w3 ⟨rfl, hq, hb⟩
  have HQ3 := Lib.hid hq
  have HB3 := Lib.hid hb
  clear hq hb HX HQ2 HB2
  obtain ⟨m2, hm2⟩ : ∃ m, m = bumpM m1 [2, 4] := ⟨_, rfl⟩
  rw [← hm2] at HQ3
  have HM2 := Lib.hid (show m2 = bumpM (newQ 5) [2, 4] from by rw [hm2, HM1.out])
  clear hm2 HM1
  have HX := Lib.hid (bu_cells HQ3.out HB3.out [4, 2, 4, 1] 4 rfl (by decide) (by rw [HM2.out]; decide) (inI_all (by decide)) 0 (by rw [HM2.out]; decide))
  simp only [LZ, List.map_cons, List.map_nil] at HX
  go_wp2_with fail
  refine HX.out.mono ?_
  rintro e w4 ⟨rfl, hq, hb⟩
  have HQ4 := Lib.hid hq
  have HB4 := Lib.hid hb
  clear hq hb HX HQ3 HB3
  obtain ⟨m3, hm3⟩ : ∃ m, m = bumpM m2 [4, 2, 4, 1] := ⟨_, rfl⟩
  rw [← hm3] at HQ4
  have HM3 := Lib.hid (show m3 = bumpM (bumpM (newQ 5) [2, 4]) [4, 2, 4, 1] from by rw [hm3, HM2.out])
  clear hm3 HM2
  have HROW := Lib.hid (show m3.row = [3, 5, 1, 2, 4] from by rw [HM3.out]; decide)
  have HX := Lib.hid (qorder_ok HQ4.out)
  go_wp2_with fail
  refine HX.out.mono ?_
  rintro e w5 ⟨⟨A, c, rfl, hO⟩, hb⟩
  rw [HROW.out] at hO ⊢
  have HB5 := Lib.hid (below_then HB4.out hb HB4.out.size)
  have HQ5 := Lib.hid (HQ4.out.below hb)
  have HSM := Lib.hid (show Calls Try.prog 17 #[.slice A 5 c, .slice (some ⟨w5.heap.size, 0, none⟩) 5 5] (w5.alloc (.cells #[.int .i64 3, .int .i64 5, .int .i64 1, .int .i64 2, .int .i64 4] 3)) (fun e w' => e = .returned (.bool true) ∧ Below (w5.alloc (.cells #[.int .i64 3, .int .i64 5, .int .i64 1, .int .i64 2, .int .i64 4] 3)).heap.size (w5.alloc (.cells #[.int .i64 3, .int .i64 5, .int .i64 1, .int .i64 2, .int .i64 4] 3)) w') from
    same_any A 5 c [3, 5, 1, 2, 4] rfl (hO.alloc _).rd (some ⟨w5.heap.size, 0, none⟩) 5 5 [3, 5, 1, 2, 4] rfl (new_is w5 _) (by decide) (by decide))
  clear hO hb HX HROW HQ4 HB4
  go_wp2_with fail
  refine HSM.out.mono ?_
  rintro e w6 ⟨rfl, hb⟩
  have HBA := Lib.hid (HB5.out.trans ((below_al w5 (.cells #[.int .i64 3, .int .i64 5, .int .i64 1, .int .i64 2, .int .i64 4] 3)).mono HB5.out.size))
  have HB6 := Lib.hid (below_then HBA.out hb HBA.out.size)
  have HQ6 := Lib.hid ((HQ5.out.below (below_al _ _)).below hb)
  clear hb HSM HQ5 HB5 HBA
  have HX := Lib.hid (qstamp_ok HQ6.out 4)
  rw [show stampI m3.N m3.st 4 = 7 from by rw [HM3.out]; decide] at HX
  go_wp2_with fail
  refine HX.out.mono ?_
  rintro e w7 ⟨rfl, rfl⟩
  clear HX
  have HX := Lib.hid (qstamp_ok HQ6.out 5)
  rw [show stampI m3.N m3.st 5 = 5 from by rw [HM3.out]; decide] at HX
  go_wp2_with fail
  refine HX.out.mono ?_
  rintro e w7 ⟨rfl, rfl⟩
  clear HX
  have HX := Lib.hid (qstamp_ok HQ6.out 6)
  rw [show stampI m3.N m3.st 6 = 0 from by rw [HM3.out]; decide] at HX
  go_wp2_with fail
  refine HX.out.mono ?_
  rintro e w7 ⟨rfl, rfl⟩
  clear HX
  have HX := Lib.hid (bu_cells HQ6.out HB6.out [6] 1 rfl (by decide) (by rw [HM3.out]; decide) (inI_all (by decide)) 2 (by rw [HM3.out]; decide))
  simp only [LZ, List.map_cons, List.map_nil] at HX
  go_wp2_with fail
  refine HX.out.mono ?_
  rintro e w7 ⟨rfl, hq, hb⟩
  have HQ7 := Lib.hid hq
  have HB7 := Lib.hid hb
  clear hq hb HX HQ6 HB6
  obtain ⟨m4, hm4⟩ : ∃ m, m = bumpM m3 [6] := ⟨_, rfl⟩
  rw [← hm4] at HQ7
  have HM4 := Lib.hid (show m4 = bumpM (bumpM (bumpM (newQ 5) [2, 4]) [4, 2, 4, 1]) [6] from by rw [hm4, HM3.out])
  clear hm4 HM3
  have HX := Lib.hid (bu_cells HQ7.out HB7.out [1, 0] 2 rfl (by decide) (by rw [HM4.out]; decide) (inI_all (by decide)) 2 (by rw [HM4.out]; decide))
  simp only [LZ, List.map_cons, List.map_nil] at HX
  go_wp2_with fail
  refine HX.out.mono ?_
  rintro e w8 ⟨rfl, hq, hb⟩
  have HQ8 := Lib.hid hq
  have HB8 := Lib.hid hb
  clear hq hb HX HQ7 HB7
  obtain ⟨m5, hm5⟩ : ∃ m, m = bumpM m4 [1, 0] := ⟨_, rfl⟩
  rw [← hm5] at HQ8
  have HM5 := Lib.hid (show m5 = bumpM (bumpM (bumpM (bumpM (newQ 5) [2, 4]) [4, 2, 4, 1]) [6]) [1, 0] from by rw [hm5, HM4.out])
  clear hm5 HM4
  have HX := Lib.hid (bu_nil HQ8.out HB8.out (by rw [HM5.out]; decide) 0 (by rw [HM5.out]; decide))
  go_wp2_with fail
  refine HX.out.mono ?_
  rintro e w9 ⟨rfl, hq, hb⟩
  have HQ9 := Lib.hid hq
  have HB9 := Lib.hid hb
  clear hq hb HX HQ8 HB8
  obtain ⟨m6, hm6⟩ : ∃ m, m = bumpM m5 [] := ⟨_, rfl⟩
  rw [← hm6] at HQ9
  have HM6 := Lib.hid (show m6 = bumpM (bumpM (bumpM (bumpM (bumpM (newQ 5) [2, 4]) [4, 2, 4, 1]) [6]) [1, 0]) [] from by rw [hm6, HM5.out])
  clear hm6 HM5
  have HX := Lib.hid (qstamp_ok HQ9.out 4)
  rw [show stampI m6.N m6.st 4 = 7 from by rw [HM6.out]; decide] at HX
  go_wp2_with fail
  refine HX.out.mono ?_
  rintro e w10 ⟨rfl, rfl⟩
  clear HX
  have HX := Lib.hid (bu_cells HQ9.out HB9.out [3] 1 rfl (by decide) (by rw [HM6.out]; decide) (inI_all (by decide)) 0 (by rw [HM6.out]; decide))
  simp only [LZ, List.map_cons, List.map_nil] at HX
  go_wp2_with fail
  refine HX.out.mono ?_
  rintro e w10 ⟨rfl, hq, hb⟩
  have HQ10 := Lib.hid hq
  have HB10 := Lib.hid hb
  clear hq hb HX HQ9 HB9
  obtain ⟨m7, hm7⟩ : ∃ m, m = bumpM m6 [3] := ⟨_, rfl⟩
  rw [← hm7] at HQ10
  have HM7 := Lib.hid (show m7 = bumpM (bumpM (bumpM (bumpM (bumpM (bumpM (newQ 5) [2, 4]) [4, 2, 4, 1]) [6]) [1, 0]) []) [3] from by rw [hm7, HM6.out])
  clear hm7 HM6
  have HX := Lib.hid (qstamp_ok HQ10.out 3)
  rw [show stampI m7.N m7.st 3 = 8 from by rw [HM7.out]; decide] at HX
  go_wp2_with fail
  refine HX.out.mono ?_
  rintro e w11 ⟨rfl, rfl⟩
  clear HX
  have HX := Lib.hid (nx_cells HQ10.out HB10.out [true, true, true, true, true] 5 rfl (by decide) 0 false ⟨by rw [HM7.out]; decide, by rw [HM7.out]; decide⟩)
  simp only [List.map_cons, List.map_nil] at HX
  go_wp2_with fail
  refine HX.out.mono ?_
  rintro e w11 ⟨rfl, hq, hb⟩
  have HQ11 := Lib.hid hq
  have HB11 := Lib.hid hb
  clear hq hb HX HQ10 HB10
  have HX := Lib.hid (nx_cells HQ11.out HB11.out [true, true, true, true, true, false] 6 rfl (by decide) 0 false ⟨by rw [HM7.out]; decide, by rw [HM7.out]; decide⟩)
  simp only [List.map_cons, List.map_nil] at HX
  go_wp2_with fail
  refine HX.out.mono ?_
  rintro e w12 ⟨rfl, hq, hb⟩
  have HQ12 := Lib.hid hq
  have HB12 := Lib.hid hb
  clear hq hb HX HQ11 HB11
  have HX := Lib.hid (nx_cells HQ12.out HB12.out [true, true, true] 3 rfl (by decide) 4 true ⟨by rw [HM7.out]; decide, by rw [HM7.out]; decide⟩)
  simp only [List.map_cons, List.map_nil] at HX
  go_wp2_with fail
  refine HX.out.mono ?_
  rintro e w13 ⟨rfl, hq, hb⟩
  have HQ13 := Lib.hid hq
  have HB13 := Lib.hid hb
  clear hq hb HX HQ12 HB12
  go_wp2_with fail
  refine (HNM.out _).mono ?_
  rintro e wz ⟨rfl, rfl⟩
  go_wp2_with fail
  refine (HNX.out _).mono ?_
  rintro e wz ⟨rfl, rfl⟩
  clear HQ13
  go_wp2_with fail
  refine (HN0.out _).mono ?_
  rintro e w14 ⟨z, rfl, hq, hb⟩
  obtain ⟨m8, hm8⟩ : ∃ m, m = newQ 0 := ⟨_, rfl⟩
  rw [← hm8] at hq
  have HM8 := Lib.hid hm8
  have HQ14 := Lib.hid (hq.low HB13.out.size)
  have HB14 := Lib.hid (below_then HB13.out hb HB13.out.size)
  clear hq hb hm8 HB13 HM7 HN HN0 HNM HNX
  have HX := Lib.hid (nx_nil HQ14.out HB14.out 0 false ⟨by rw [HM8.out]; decide, by rw [HM8.out]; decide⟩)
  go_wp2_with fail
  refine HX.out.mono ?_
  rintro e w15 ⟨rfl, hq, hb⟩
  have HQ15 := Lib.hid hq
  have HB15 := Lib.hid hb
  clear hq hb HX HQ14 HB14
  go_wp2_with fail
  refine (next_nil none 0 0 _).mono ?_
  rintro e wz ⟨rfl, rfl⟩
  have HX := Lib.hid (bu_nil HQ15.out HB15.out (by rw [HM8.out]; decide) 0 (by rw [HM8.out]; decide))
  go_wp2_with fail
  refine HX.out.mono ?_
  rintro e w16 ⟨rfl, hq, hb⟩
  have HQ16 := Lib.hid hq
  have HB16 := Lib.hid hb
  clear hq hb HX HQ15 HB15
  obtain ⟨m9, hm9⟩ : ∃ m, m = bumpM m8 [] := ⟨_, rfl⟩
  rw [← hm9] at HQ16
  have HM9 := Lib.hid (show m9 = bumpM (newQ 0) [] from by rw [hm9, HM8.out])
  clear hm9 HM8
  have HX := Lib.hid (bu_cells HQ16.out HB16.out [1] 1 rfl (by decide) (by rw [HM9.out]; decide) (inI_all (by decide)) 2 (by rw [HM9.out]; decide))
  simp only [LZ, List.map_cons, List.map_nil] at HX
  go_wp2_with fail
  refine HX.out.mono ?_
  rintro e w17 ⟨rfl, hq, hb⟩
  have HQ17 := Lib.hid hq
  have HB17 := Lib.hid hb
  clear hq hb HX HQ16 HB16
  obtain ⟨m10, hm10⟩ : ∃ m, m = bumpM m9 [1] := ⟨_, rfl⟩
  rw [← hm10] at HQ17
  have HM10 := Lib.hid (show m10 = bumpM (bumpM (newQ 0) []) [1] from by rw [hm10, HM9.out])
  clear hm10 HM9
  go_wp2_with fail
  refine (bump_nil none 0 0 _).mono ?_
  rintro e wz ⟨rfl, rfl⟩
  go_wp2_with fail
  refine (stamp_nil 1 _).mono ?_
  rintro e wz ⟨rfl, rfl⟩
  go_wp2_with fail
  refine (order_nil _).mono ?_
  rintro e wz ⟨rfl, rfl⟩
  go_wp2_with fail
  refine (size_nil _).mono ?_
  rintro e wz ⟨rfl, rfl⟩
  go_wp2_with fail
  refine (copy_nil _).mono ?_
  rintro e wz ⟨rfl, rfl⟩
  go_wp2_with fail
  refine (works_ok _).mono ?_
  rintro e wx ⟨rfl, hbx⟩
  have HBX := Lib.hid (below_then HB17.out hbx HB17.out.size)
  clear hbx
  go_wp2
  go_ret
  exact ⟨rfl, HBX.out⟩
end Go.Proofs.Ytgldhnjbodmbbaa.Qu
