/- QueueRow: the walk. Condition: the memory. -/
import Derived.Test.YtgldhnjbodmbbaaVd
import Derived.Deep.QuietTactic
namespace Go.Proofs.Ytgldhnjbodmbbaa.Qu
open Go.RowKit Go.Proofs.Ytgldhnjbodmbbaa.Mem Go.Proofs.Ytgldhnjbodmbbaa.Sl Go.Shelf
open Go.Proofs.Ytgldhnjbodmbbaa.FnL (enc_at below_then)
open Go.Proofs.Ytgldhnjbodmbbaa.OpQ (OQ Ops Pure)
set_option linter.unusedVariables false

theorem bumpM_row {m : QM} {l : List Int} (h : bumpE m l = 0) : (bumpM m l).row = mvRow m.row (mvL m.row l) := by
  unfold bumpE at h
  have hb : badI m.N l = false := by
    rcases hq : badI m.N l with _ | _
    · rfl
    · rw [hq] at h; exact absurd h (by decide)
  unfold bumpM
  rw [if_neg (by rw [hb]; decide)]
  split
  · rename_i e
    subst e
    have : mvL m.row [] = [] := by unfold mvL; simp
    rw [this, mvRow_nil]
  · rfl
/-- Between the calls. -/
structure RW (w wr : World) (q : QA) (m : QM) (N k : Nat) : Prop where
  ql : QL wr w.heap.size q m
  n : m.N = N
  sm : SM m
  mv : m.moved ≤ k
  b : Below w.heap.size w wr
theorem RW.below {w wr w' : World} {q : QA} {m : QM} {N k : Nat} (h : RW w wr q m N k) (hb : Below wr.heap.size wr w') : RW w w' q m N k := ⟨h.ql.below hb, h.n, h.sm, h.mv, below_then h.b hb h.b.size⟩
theorem RW.next {w wr : World} {q : QA} {m : QM} {N k : Nat} (h : RW w wr q m N k) : RW w wr q m N (k + 1) := ⟨h.ql, h.n, h.sm, by have := h.mv; omega, h.b⟩
theorem RW.bump {w wr w' : World} {q : QA} {m : QM} {N k : Nat} (h : RW w wr q m N k) {l : List Int} (hq : QL w' w.heap.size q (bumpM m l)) (hm : Mod (mq q) wr w') : RW w w' q (bumpM m l) N (k + 1) :=
  ⟨hq, (bumpM_N _ _).trans h.n, h.sm.bump h.ql.qw l, by have := bumpM_moved m l; have := h.mv; omega, h.ql.mq_below h.b hm⟩
end Go.Proofs.Ytgldhnjbodmbbaa.Qu
