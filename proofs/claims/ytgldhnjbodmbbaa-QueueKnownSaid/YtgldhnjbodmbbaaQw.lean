/- The statement's works: the examples' queue works. Condition: the memory. -/
import Derived.Test.YtgldhnjbodmbbaaQv
namespace Go.Proofs.Ytgldhnjbodmbbaa.Qu
open Go.RowKit Go.Proofs.Ytgldhnjbodmbbaa.Mem Go.Proofs.Ytgldhnjbodmbbaa.Sl Go.Shelf
open Go.Proofs.Ytgldhnjbodmbbaa.FnL (enc_at below_then)
set_option linter.unusedVariables false

theorem new_bs (w : World) (bs : List Bool) : RdV (w.alloc (.cells (bs.map Value.bool).toArray 4)) (some ⟨w.heap.size, 0, none⟩) (bs.map Value.bool) := (Row.new w 4 (bs.map Value.bool)).rd
theorem new_is (w : World) (l : List Int) : RdV (w.alloc (.cells (LZ l).toArray 3)) (some ⟨w.heap.size, 0, none⟩) (LZ l) := (Row.new w 3 (LZ l)).rd
theorem below_al (w : World) (o : Obj) : Below w.heap.size w (w.alloc o) := (Below.refl _ _).alloc (Nat.le_refl _) _
theorem QL.mq_below {w0 w w' : World} {q : QA} {m : QM} (h : QL w w0.heap.size q m) (hb : Below w0.heap.size w0 w) (hm : Mod (mq q) w w') : Below w0.heap.size w0 w' :=
  Mem.Below.then_mod hb hm (fun i hi e => absurd (h.minB e).1 (Nat.not_le_of_lt hi)) (Nat.le_refl _)
set_option maxHeartbeats 4000000 in
theorem works_ok (w : World) : Calls Try.prog 9 #[] w fun e w' => e = .returned (.bool true) ∧ Below w.heap.size w w' := by
  have HN := Lib.hid (show Calls Try.prog 10 #[.int .i64 5] w (QNewR w 5) from qnew_ok 5 (by decide) w)
  go_enter Try.func9, Try.ntmps9
  go_wp2_with fail
  refine HN.out.mono ?_
  rintro e w1 ⟨q, rfl, hq, hb⟩
  have HQ1 := Lib.hid hq
  have HB1 := Lib.hid hb
  have HX := Lib.hid (show Calls Try.prog 16 #[.pointer (some ⟨q.g, 0, none⟩), .slice (some ⟨w1.heap.size, 0, none⟩) 5 5] (w1.alloc (.cells #[.bool false, .bool false, .bool false, .bool false, .bool true] 4)) (fun e w' => e = .returned (.tuple #[.int .i64 4, .bool true]) ∧ QL w' w.heap.size q (newQ 5) ∧ Mod (mq q) (w1.alloc (.cells #[.bool false, .bool false, .bool false, .bool false, .bool true] 4)) w') from
    (qnext_ok (hq.below (below_al _ _)) (some ⟨w1.heap.size, 0, none⟩) 5 5 [false, false, false, false, true] rfl (new_bs w1 _) (by decide)).mono fun e w' ⟨h1, h2, h3⟩ => ⟨by rw [h1]; rfl, h2, h3⟩)
  clear hq hb HN
  go_wp2_with fail
  refine HX.out.mono ?_
  rintro e w2 ⟨rfl, hq, hm⟩
  have HQ2 := Lib.hid hq
  have HB2 := Lib.hid ((HQ1.out.below (below_al _ _)).mq_below (HB1.out.trans ((below_al _ _).mono HB1.out.size)) hm)
  obtain ⟨m1, hm1⟩ : ∃ m1, m1 = bumpM (newQ 5) [2, 4] := ⟨_, rfl⟩
  have HROW := Lib.hid (show m1.row = [1, 3, 5, 2, 4] from by rw [hm1]; decide)
  have HST := Lib.hid (show stampI m1.N m1.st 4 = 6 from by rw [hm1]; decide)
  have HNN := Lib.hid (show m1.N = 5 from by rw [hm1]; decide)
  have HBU := Lib.hid (show Calls Try.prog 12 #[.pointer (some ⟨q.g, 0, none⟩), .slice (some ⟨w2.heap.size, 0, none⟩) 2 2] (w2.alloc (.cells #[.int .i64 2, .int .i64 4] 3)) (fun e w' => e = .returned (.int .i64 0) ∧ QL w' w.heap.size q m1 ∧ Mod (mq q) (w2.alloc (.cells #[.int .i64 2, .int .i64 4] 3)) w') from
    (qbump_ok (hq.below (below_al _ _)) (by decide) (some ⟨w2.heap.size, 0, none⟩) 2 2 [2, 4] rfl (new_is w2 _) (fun x hx => by simp at hx; rcases hx with rfl | rfl <;> (unfold inI; omega)) (by decide)).mono fun e w' ⟨h1, h2, h3⟩ => ⟨by rw [h1]; rfl, by rw [hm1]; exact h2, h3⟩)
  clear hq hm hm1 HX HQ1
  go_wp2_with fail
  refine HBU.out.mono ?_
  rintro e w3 ⟨rfl, hq, hm⟩
  have HQ3 := Lib.hid hq
  have HB3 := Lib.hid ((HQ2.out.below (below_al _ _)).mq_below (HB2.out.trans ((below_al _ _).mono HB2.out.size)) hm)
  have HOR := Lib.hid (qorder_ok hq)
  clear hq hm HBU HQ2 HB1 HB2
  go_wp2_with fail
  refine HOR.out.mono ?_
  rintro e w4 ⟨⟨A, c, rfl, hO⟩, hb⟩
  rw [HROW.out] at hO ⊢
  have HB4 := Lib.hid (below_then HB3.out hb HB3.out.size)
  have HQ4 := Lib.hid (HQ3.out.below hb)
  have HSM := Lib.hid (show Calls Try.prog 17 #[.slice A 5 c, .slice (some ⟨w4.heap.size, 0, none⟩) 5 5] (w4.alloc (.cells #[.int .i64 1, .int .i64 3, .int .i64 5, .int .i64 2, .int .i64 4] 3)) (fun e w' => e = .returned (.bool true) ∧ Below (w4.alloc (.cells #[.int .i64 1, .int .i64 3, .int .i64 5, .int .i64 2, .int .i64 4] 3)).heap.size (w4.alloc (.cells #[.int .i64 1, .int .i64 3, .int .i64 5, .int .i64 2, .int .i64 4] 3)) w') from
    same_any A 5 c [1, 3, 5, 2, 4] rfl (hO.alloc _).rd (some ⟨w4.heap.size, 0, none⟩) 5 5 [1, 3, 5, 2, 4] rfl (new_is w4 _) (by decide) (by decide))
  clear hO hb HOR HQ3 HB3
  go_wp2_with fail
  refine HSM.out.mono ?_
  rintro e w5 ⟨rfl, hb⟩
  have HBA := Lib.hid (HB4.out.trans ((below_al w4 (.cells #[.int .i64 1, .int .i64 3, .int .i64 5, .int .i64 2, .int .i64 4] 3)).mono HB4.out.size))
  have HB5 := Lib.hid (below_then HBA.out hb HBA.out.size)
  have HQ5 := Lib.hid ((HQ4.out.below (below_al _ _)).below hb)
  have HS5 := Lib.hid (qstamp_ok HQ5.out 4)
  rw [HST.out] at HS5
  have HZ5 := Lib.hid (qsize_ok HQ5.out)
  rw [HNN.out] at HZ5
  clear hb HSM HQ4 HB4 HBA HROW HST HNN
  go_wp2_with fail
  refine HS5.out.mono ?_
  rintro e w6 ⟨rfl, rfl⟩
  go_wp2_with fail
  refine HZ5.out.mono ?_
  rintro e w6 ⟨rfl, rfl⟩
  go_wp2
  go_ret
  exact ⟨rfl, HB5.out⟩
end Go.Proofs.Ytgldhnjbodmbbaa.Qu
