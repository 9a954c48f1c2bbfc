/- Calls of an arena, as readers read them. Plain theorems, no condition. -/
import Derived.Test.YtenadnmglhghiaaAn
import Derived.Test.YtenadnmglhghiaaRdB
namespace Go.Proofs.Ytenadnmglhghiaa.Ar
open Go.RowKit Go.Proofs.Ytenadnmglhghiaa.Mem Go.Proofs.Ytenadnmglhghiaa.Sl Go.Proofs.Ytenadnmglhghiaa.Rdr
set_option linter.unusedVariables false

/-- A call: kind, id, literals, red, place, loose, two numbers. -/
structure St where
  k : Int
  id : Int
  A : Option Addr
  ln : Nat
  lc : Nat
  l : List Int
  red : Bool
  r : Int
  loose : Bool
  i : Int
  j : Int
def St.row (s : St) : List Value := [.int .i64 s.k, .int .i64 s.id, .slice s.A s.ln s.lc, .bool s.red, .int .i64 s.r, .bool s.loose, .int .i64 s.i, .int .i64 s.j]
structure StOk (B : Nat) (w : World) (s : St) : Prop where
  kb : inI s.k
  ib : inI s.id
  rb : inI s.r
  n1 : inI s.i
  n2 : inI s.j
  tl : s.ln = s.l.length
  mx : s.ln ≤ 9223372036854775807
  nil : s.A = none → s.lc = 0
  rd : RdB B w s.A (LI s.l)
  lb : ∀ y, y ∈ s.l → -2147483648 ≤ y ∧ y ≤ 2147483647
theorem StOk.below {B : Nat} {w w' : World} {s : St} (h : StOk B w s) (hb : Below B w w') : StOk B w' s := ⟨h.kb, h.ib, h.rb, h.n1, h.n2, h.tl, h.mx, h.nil, h.rd.below hb, h.lb⟩
abbrev StX := Int × Int × (SlV × List Int) × Bool × Int × Bool × Int × Int × Unit
def stR : R StX := seq (int .i64) (seq (int .i64) (seq (slice (int .i32)) (seq bool (seq (int .i64) (seq bool (seq (int .i64) (seq (int .i64) unit)))))))
def stOf (x : StX) : St := ⟨x.1, x.2.1, x.2.2.1.1.A, x.2.2.1.1.n, x.2.2.1.1.c, x.2.2.1.2, x.2.2.2.1, x.2.2.2.2.1, x.2.2.2.2.2.1, x.2.2.2.2.2.2.1, x.2.2.2.2.2.2.2.1⟩
theorem st_rel {w : World} {cs : List Value} {x : StX} (h : stR.rel w cs x) : cs = (stOf x).row ∧ StOk w.heap.size w (stOf x) := by
  obtain ⟨c1, d1, e1, _, _, ⟨r1, q1⟩, c2, d2, e2, _, _, ⟨r2, q2⟩, c3, d3, e3, _, _, ⟨s1, s2, s3, s4, s5, s6⟩, c4, d4, e4, _, _, r4, c5, d5, e5, _, _, ⟨r5, q5⟩, c6, d6, e6, _, _, r6, c7, d7, e7, _, _, ⟨r7, q7⟩, c8, d8, e8, _, _, ⟨r8, q8⟩, r9⟩ := h
  have r9 : d8 = [] := r9
  have r4 : c4 = [.bool _] := r4
  have r6 : c6 = [.bool _] := r6
  subst r9
  rw [e1, r1, e2, r2, e3, s1, e4, r4, e5, r5, e6, r6, e7, r7, e8, r8]
  simp only [Lit.wf, Bool.and_eq_true, decide_eq_true_eq] at q1 q2 q5 q7 q8
  refine ⟨rfl, q1, q2, q5, q7, q8, s2.symm, Nat.le_trans s3 (Nat.le_trans s4 (by decide)), s5, RdB.of (RdC.cells_of (r := int .i32) (enc := Value.int .i32) (fun _ _ _ h => h.1) rfl s2 s3 s5 s6), fun y hy => ?_⟩
  obtain ⟨i, hi, rfl⟩ := List.getElem_of_mem hy
  have hi' : i < x.2.2.1.2.length := hi
  rcases hA : x.2.2.1.1.A with _ | a
  · have := s5 hA; omega
  · obtain ⟨cs', _, _, _, q⟩ := s6 a hA i (x.2.2.1.2[i]'hi') (List.getElem?_eq_getElem hi')
    simp only [Lit.wf, Bool.and_eq_true, decide_eq_true_eq] at q
    exact q
/-- The cells of a call. -/
def StAt (w : World) (b off : Nat) (s : St) : Prop :=
  w.cell? ⟨b, off, none⟩ = some (.int .i64 s.k) ∧ w.cell? ⟨b, off + 1, none⟩ = some (.int .i64 s.id) ∧ w.cell? ⟨b, off + 2, none⟩ = some (.slice s.A s.ln s.lc) ∧ w.cell? ⟨b, off + 3, none⟩ = some (.bool s.red) ∧
  w.cell? ⟨b, off + 4, none⟩ = some (.int .i64 s.r) ∧ w.cell? ⟨b, off + 5, none⟩ = some (.bool s.loose) ∧ w.cell? ⟨b, off + 6, none⟩ = some (.int .i64 s.i) ∧ w.cell? ⟨b, off + 7, none⟩ = some (.int .i64 s.j)
theorem StAt.below {B : Nat} {w w' : World} {b off : Nat} {s : St} (h : StAt w b off s) (hb : Below B w w') (hx : b < B) : StAt w' b off s :=
  ⟨(hb.cell (p := ⟨b, off, none⟩) hx).trans h.1, (hb.cell (p := ⟨b, off + 1, none⟩) hx).trans h.2.1, (hb.cell (p := ⟨b, off + 2, none⟩) hx).trans h.2.2.1, (hb.cell (p := ⟨b, off + 3, none⟩) hx).trans h.2.2.2.1,
   (hb.cell (p := ⟨b, off + 4, none⟩) hx).trans h.2.2.2.2.1, (hb.cell (p := ⟨b, off + 5, none⟩) hx).trans h.2.2.2.2.2.1, (hb.cell (p := ⟨b, off + 6, none⟩) hx).trans h.2.2.2.2.2.2.1, (hb.cell (p := ⟨b, off + 7, none⟩) hx).trans h.2.2.2.2.2.2.2⟩
/-- A row of calls, all that it leads to below B. -/
structure Sts (B : Nat) (w : World) (A : Option Addr) (n : Nat) (l : List St) : Prop where
  ln : n = l.length
  mx : n ≤ 9223372036854775807
  row : 0 < l.length → ∃ b off, A = some ⟨b, off, none⟩ ∧ b < B ∧ ∀ i s, l[i]? = some s → StAt w b (off + i * 8) s ∧ StOk B w s
theorem Sts.below {B : Nat} {w w' : World} {A : Option Addr} {n : Nat} {l : List St} (h : Sts B w A n l) (hb : Below B w w') : Sts B w' A n l := ⟨h.ln, h.mx, fun hp => by
  obtain ⟨b, off, rfl, hx, hc⟩ := h.row hp
  exact ⟨b, off, rfl, hx, fun i o hi => ⟨(hc i o hi).1.below hb hx, (hc i o hi).2.below hb⟩⟩⟩
theorem Sts.at_ {B : Nat} {w : World} {A : Option Addr} {n : Nat} {l : List St} (h : Sts B w A n l) {k : Nat} (hk : k < l.length) : ∃ b off, A = some ⟨b, off, none⟩ ∧ b < B ∧ StAt w b (off + k * 8) l[k] ∧ StOk B w l[k] := by
  obtain ⟨b, off, e, hx, hc⟩ := h.row (by omega)
  have := hc k l[k] (List.getElem?_eq_getElem hk)
  exact ⟨b, off, e, hx, this.1, this.2⟩
theorem sts_of {w : World} {A : Option Addr} {n c : Nat} {x : SlV × List StX} (h : (slice stR).rel w [.slice A n c] x) : Sts w.heap.size w A n (x.2.map stOf) := by
  obtain ⟨h1, h2, h3, h4, h5, h6⟩ := h
  injection h1 with h1 _
  injection h1 with hA hn hc
  rw [← hA] at h5 h6
  rw [← hn] at h2 h3
  rw [← hc] at h3 h4 h5
  refine ⟨by simpa using h2.symm, Nat.le_trans h3 (Nat.le_trans h4 (by decide)), fun hp => ?_⟩
  rw [List.length_map] at hp
  rcases A with _ | a
  · have := h5 rfl; omega
  obtain ⟨b, off, spot⟩ := a
  have hcell : ∀ (i : Nat) y, x.2[i]? = some y → ∃ cs, cs.length = 8 ∧ (∀ j, j < 8 → w.cell? (((⟨b, off, spot⟩ : Addr).add (i * 8)).add j) = cs[j]?) ∧ stR.rel w cs y := fun i y hy => h6 _ rfl i y hy
  have hspot : spot = none := by
    obtain ⟨cs, k1, k2, _⟩ := hcell 0 (x.2[0]) (by simp [hp])
    have h0 := k2 0 (by omega)
    rw [show cs[0]? = some cs[0] by simp [k1]] at h0
    simpa [Addr.add] using World.cell?_spot h0
  subst hspot
  refine ⟨b, off, rfl, ?_, fun i o ho => ?_⟩
  · obtain ⟨cs, k1, k2, _⟩ := hcell 0 (x.2[0]) (by simp [hp])
    have h0 := k2 0 (by omega)
    rw [show cs[0]? = some cs[0] by simp [k1]] at h0
    exact World.block_lt_of_cell? w _ (by simpa [Addr.add] using h0)
  · rw [List.getElem?_map] at ho
    rcases hy : x.2[i]? with _ | y
    · rw [hy] at ho; cases ho
    rw [hy] at ho
    rw [← Option.some.inj ho]
    obtain ⟨cs, k1, k2, hr⟩ := hcell i y hy
    obtain ⟨e4, hok⟩ := st_rel hr
    have m0 := k2 0 (by omega)
    have m1 := k2 1 (by omega)
    have m2 := k2 2 (by omega)
    have m3 := k2 3 (by omega)
    have m4 := k2 4 (by omega)
    have m5 := k2 5 (by omega)
    have m6 := k2 6 (by omega)
    have m7 := k2 7 (by omega)
    rw [e4] at m0 m1 m2 m3 m4 m5 m6 m7
    simp only [Go.WideShapes.add_plain] at m0 m1 m2 m3 m4 m5 m6 m7
    exact ⟨⟨m0, m1, m2, m3, m4, m5, m6, m7⟩, hok⟩
theorem none_st {w : World} (s : St) (h : StOk w.heap.size w s) : Calls Try.prog 5 #[.agg s.row.toArray] w fun e w' => e = .returned (.bool true) ∧ Below w.heap.size w w' :=
  none_walk #[] s.k s.id s.A s.ln s.lc s.red s.loose s.r s.i s.j w h.rb
end Go.Proofs.Ytenadnmglhghiaa.Ar
