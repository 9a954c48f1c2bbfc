/- Calls on a trail, as readers read them. Plain theorems, no condition. -/
import Derived.Test.YtbbpebfgdcidjaaRdB
namespace Go.Proofs.Ytbbpebfgdcidjaa.Ta
open Go.RowKit Go.Proofs.Ytbbpebfgdcidjaa.Mem Go.Proofs.Ytbbpebfgdcidjaa.Sl Go.Proofs.Ytbbpebfgdcidjaa.Rdr
set_option linter.unusedVariables false

/-- A call: its kind, its literal, its number, its row. -/
structure St where
  k : Int
  l : Int
  n : Int
  A : Option Addr
  tn : Nat
  tc : Nat
  to : List Int
def St.row (s : St) : List Value := [.int .i64 s.k, .int .i32 s.l, .int .i64 s.n, .slice s.A s.tn s.tc]
structure StOk (B : Nat) (w : World) (s : St) : Prop where
  kb : -9223372036854775808 ≤ s.k ∧ s.k ≤ 9223372036854775807
  lb : -2147483648 ≤ s.l ∧ s.l ≤ 2147483647
  nb : -9223372036854775808 ≤ s.n ∧ s.n ≤ 9223372036854775807
  tl : s.tn = s.to.length
  mx : s.tn ≤ 9223372036854775807
  nil : s.A = none → s.tc = 0
  rd : RdB B w s.A (s.to.map (Value.int .i64))
  tb : ∀ y, y ∈ s.to → -9223372036854775808 ≤ y ∧ y ≤ 9223372036854775807
theorem StOk.below {B : Nat} {w w' : World} {s : St} (h : StOk B w s) (hb : Below B w w') : StOk B w' s := ⟨h.kb, h.lb, h.nb, h.tl, h.mx, h.nil, h.rd.below hb, h.tb⟩
def stR : R (Int × Int × Int × (SlV × List Int) × Unit) := seq (int .i64) (seq (int .i32) (seq (int .i64) (seq (slice (int .i64)) unit)))
def stOf (x : Int × Int × Int × (SlV × List Int) × Unit) : St := ⟨x.1, x.2.1, x.2.2.1, x.2.2.2.1.1.A, x.2.2.2.1.1.n, x.2.2.2.1.1.c, x.2.2.2.1.2⟩
theorem st_rel {w : World} {cs : List Value} {x : Int × Int × Int × (SlV × List Int) × Unit} (h : stR.rel w cs x) : cs = (stOf x).row ∧ StOk w.heap.size w (stOf x) := by
  obtain ⟨c1, c2, e1, _, _, ⟨r1, q1⟩, c3, c4, e2, _, _, ⟨r2, q2⟩, c5, c6, e3, _, _, ⟨r3, q3⟩, c7, c8, e4, _, _, ⟨s1, s2, s3, s4, s5, s6⟩, r9⟩ := h
  have r9 : c8 = [] := r9
  subst r9
  rw [e1, r1, e2, r2, e3, r3, e4, s1]
  simp only [Lit.wf, Bool.and_eq_true, decide_eq_true_eq] at q1 q2 q3
  refine ⟨rfl, q1, q2, q3, s2.symm, Nat.le_trans s3 (Nat.le_trans s4 (by decide)), s5, RdB.of (RdC.cells_of (r := int .i64) (enc := Value.int .i64) (fun _ _ _ h => h.1) rfl s2 s3 s5 s6), fun y hy => ?_⟩
  obtain ⟨i, hi, rfl⟩ := List.getElem_of_mem hy
  have hi' : i < x.2.2.2.1.2.length := hi
  rcases hA : x.2.2.2.1.1.A with _ | a
  · have := s5 hA; omega
  · obtain ⟨cs', _, _, _, q⟩ := s6 a hA i (x.2.2.2.1.2[i]'hi') (List.getElem?_eq_getElem hi')
    simp only [Lit.wf, Bool.and_eq_true, decide_eq_true_eq] at q
    exact q
/-- A row of calls, all that it leads to below B. -/
structure Sts (B : Nat) (w : World) (A : Option Addr) (n : Nat) (l : List St) : Prop where
  ln : n = l.length
  mx : n ≤ 9223372036854775807
  row : 0 < l.length → ∃ b off, A = some ⟨b, off, none⟩ ∧ b < B ∧ ∀ i s, l[i]? = some s → (w.cell? ⟨b, off + i * 4, none⟩ = some (.int .i64 s.k) ∧ w.cell? ⟨b, off + i * 4 + 1, none⟩ = some (.int .i32 s.l) ∧ w.cell? ⟨b, off + i * 4 + 2, none⟩ = some (.int .i64 s.n) ∧ w.cell? ⟨b, off + i * 4 + 3, none⟩ = some (.slice s.A s.tn s.tc)) ∧ StOk B w s
theorem Sts.below {B : Nat} {w w' : World} {A : Option Addr} {n : Nat} {l : List St} (h : Sts B w A n l) (hb : Below B w w') : Sts B w' A n l := ⟨h.ln, h.mx, fun hp => by
  obtain ⟨b, off, rfl, hx, hc⟩ := h.row hp
  exact ⟨b, off, rfl, hx, fun i o hi => by
    have h := hc i o hi
    exact ⟨⟨(hb.cell (p := ⟨b, off + i * 4, none⟩) hx).trans h.1.1, (hb.cell (p := ⟨b, off + i * 4 + 1, none⟩) hx).trans h.1.2.1, (hb.cell (p := ⟨b, off + i * 4 + 2, none⟩) hx).trans h.1.2.2.1, (hb.cell (p := ⟨b, off + i * 4 + 3, none⟩) hx).trans h.1.2.2.2⟩, h.2.below hb⟩⟩⟩
theorem Sts.at_ {B : Nat} {w : World} {A : Option Addr} {n : Nat} {l : List St} (h : Sts B w A n l) {k : Nat} (hk : k < l.length) : ∃ b off, A = some ⟨b, off, none⟩ ∧ b < B ∧ (w.cell? ⟨b, off + k * 4, none⟩ = some (.int .i64 l[k].k) ∧ w.cell? ⟨b, off + k * 4 + 1, none⟩ = some (.int .i32 l[k].l) ∧ w.cell? ⟨b, off + k * 4 + 2, none⟩ = some (.int .i64 l[k].n) ∧ w.cell? ⟨b, off + k * 4 + 3, none⟩ = some (.slice l[k].A l[k].tn l[k].tc)) ∧ StOk B w l[k] := by
  obtain ⟨b, off, e, hx, hc⟩ := h.row (by omega)
  have := hc k l[k] (List.getElem?_eq_getElem hk)
  exact ⟨b, off, e, hx, this.1, this.2⟩
theorem sts_of {w : World} {A : Option Addr} {n c : Nat} {x : SlV × List (Int × Int × Int × (SlV × List Int) × Unit)} (h : (slice stR).rel w [.slice A n c] x) : Sts w.heap.size w A n (x.2.map stOf) := by
  obtain ⟨h1, h2, h3, h4, h5, h6⟩ := h
  injection h1 with h1 _
  injection h1 with hA hn hc
  rw [← hA] at h5 h6
  rw [← hn] at h2 h3
  rw [← hc] at h3 h4 h5
  refine ⟨by simpa using h2.symm, Nat.le_trans h3 (Nat.le_trans h4 (by decide)), fun hp => ?_⟩
  rw [List.length_map] at hp
  rcases A with _ | a
  · have := h5 rfl; omega
  obtain ⟨b, off, spot⟩ := a
  have hcell : ∀ (i : Nat) y, x.2[i]? = some y → ∃ cs, cs.length = 4 ∧ (∀ j, j < 4 → w.cell? (((⟨b, off, spot⟩ : Addr).add (i * 4)).add j) = cs[j]?) ∧ stR.rel w cs y := fun i y hy => h6 _ rfl i y hy
  have hspot : spot = none := by
    obtain ⟨cs, k1, k2, _⟩ := hcell 0 (x.2[0]) (by simp [hp])
    have h0 := k2 0 (by omega)
    rw [show cs[0]? = some cs[0] by simp [k1]] at h0
    simpa [Addr.add] using World.cell?_spot h0
  subst hspot
  refine ⟨b, off, rfl, ?_, fun i o ho => ?_⟩
  · obtain ⟨cs, k1, k2, _⟩ := hcell 0 (x.2[0]) (by simp [hp])
    have h0 := k2 0 (by omega)
    rw [show cs[0]? = some cs[0] by simp [k1]] at h0
    exact World.block_lt_of_cell? w _ (by simpa [Addr.add] using h0)
  · rw [List.getElem?_map] at ho
    rcases hy : x.2[i]? with _ | y
    · rw [hy] at ho; cases ho
    rw [hy] at ho
    rw [← Option.some.inj ho]
    obtain ⟨cs, k1, k2, hr⟩ := hcell i y hy
    obtain ⟨e4, hok⟩ := st_rel hr
    have m0 := k2 0 (by omega)
    have m1 := k2 1 (by omega)
    have m2 := k2 2 (by omega)
    have m3 := k2 3 (by omega)
    rw [e4] at m0 m1 m2 m3
    simp only [Go.WideShapes.add_plain] at m0 m1 m2 m3
    exact ⟨⟨m0, m1, m2, m3⟩, hok⟩
end Go.Proofs.Ytbbpebfgdcidjaa.Ta
