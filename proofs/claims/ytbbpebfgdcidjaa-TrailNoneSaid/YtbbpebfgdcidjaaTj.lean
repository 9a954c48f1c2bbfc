/- Calls on a trail, as readers read them. Plain theorems, no condition. -/
import Derived.Test.YtbbpebfgdcidjaaRdB
namespace Go.Proofs.Ytbbpebfgdcidjaa.Ta
open Go.RowKit Go.Proofs.Ytbbpebfgdcidjaa.Mem Go.Proofs.Ytbbpebfgdcidjaa.Sl Go.Proofs.Ytbbpebfgdcidjaa.Rdr
set_option linter.unusedVariables false

/-- A call: its kind, its literal, its number, its row. -/
structure St where
  k : Int
  l : Int
  n : Int
  A : Option Addr
  tn : Nat
  tc : Nat
  to : List Int
def St.row (s : St) : List Value := [.int .i64 s.k, .int .i32 s.l, .int .i64 s.n, .slice s.A s.tn s.tc]
structure StOk (B : Nat) (w : World) (s : St) : Prop where
  kb : -9223372036854775808 ≤ s.k ∧ s.k ≤ 9223372036854775807
  lb : -2147483648 ≤ s.l ∧ s.l ≤ 2147483647
  nb : -9223372036854775808 ≤ s.n ∧ s.n ≤ 9223372036854775807
  tl : s.tn = s.to.length
  mx : s.tn ≤ 9223372036854775807
  nil : s.A = none → s.tc = 0
  rd : RdB B w s.A (s.to.map (Value.int .i64))
  tb : ∀ y, y ∈ s.to → -9223372036854775808 ≤ y ∧ y ≤ 9223372036854775807
theorem StOk.below {B : Nat} {w w' : World} {s : St} (h : StOk B w s) (hb : Below B w w') : StOk B w' s := ⟨h.kb, h.lb, h.nb, h.tl, h.mx, h.nil, h.rd.below hb, h.tb⟩
def stR : R (Int × Int × Int × (SlV × List Int) × Unit) := seq (int .i64) (seq (int .i32) (seq (int .i64) (seq (slice (int .i64)) unit)))
def stOf (x : Int × Int × Int × (SlV × List Int) × Unit) : St := ⟨x.1, x.2.1, x.2.2.1, x.2.2.2.1.1.A, x.2.2.2.1.1.n, x.2.2.2.1.1.c, x.2.2.2.1.2⟩
theorem st_rel {w : World} {cs : List Value} {x : Int × Int × Int × (SlV × List Int) × Unit} (h : stR.rel w cs x) : cs = (stOf x).row ∧ StOk w.heap.size w (stOf x) := by
  obtain ⟨c1, c2, e1, _, _, ⟨r1, q1⟩, c3, c4, e2, _, _, ⟨r2, q2⟩, c5, c6, e3, _, _, ⟨r3, q3⟩, c7, c8, e4, _, _, ⟨s1, s2, s3, s4, s5, s6⟩, r9⟩ := h
  have r9 : c8 = [] := r9
  subst r9
  rw [e1, r1, e2, r2, e3, r3, e4, s1]
  simp only [Lit.wf, Bool.and_eq_true, decide_eq_true_eq] at q1 q2 q3
  refine ⟨rfl, q1, q2, q3, s2.symm, Nat.le_trans s3 (Nat.le_trans s4 (by decide)), s5, RdB.of (RdC.cells_of (r := int .i64) (enc := Value.int .i64) (fun _ _ _ h => h.1) rfl s2 s3 s5 s6), fun y hy => ?_⟩
  obtain ⟨i, hi, rfl⟩ := List.getElem_of_mem hy
  have hi' : i < x.2.2.2.1.2.length := hi
  rcases hA : x.2.2.2.1.1.A with _ | a
  · have := s5 hA; omega
  · obtain ⟨cs', _, _, _, q⟩ := s6 a hA i (x.2.2.2.1.2[i]'hi') (List.getElem?_eq_getElem hi')
    simp only [Lit.wf, Bool.and_eq_true, decide_eq_true_eq] at q
    exact q
end Go.Proofs.Ytbbpebfgdcidjaa.Ta
