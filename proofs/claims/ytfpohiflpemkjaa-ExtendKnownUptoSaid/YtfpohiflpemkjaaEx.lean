/- Stacks of witnesses in memory; the document's right and Extend. -/
import Derived.Test.YtfpohiflpemkjaaClV
import Derived.Test.YtfpohiflpemkjaaApp
namespace Go.Proofs.Ytfpohiflpemkjaa.Ex
open Go.RowKit Go.Proofs.Ytfpohiflpemkjaa.Mem Go.Proofs.Ytfpohiflpemkjaa.Sl Go.Proofs.Ytfpohiflpemkjaa.Cl Go.Proofs.Ytfpohiflpemkjaa.App Go.Shelf
open Go.Proofs.Ytfpohiflpemkjaa.FnL (Pred enc_at below_then)
set_option linter.unusedVariables false

def rightB (N : Int) (l : List Int) : Bool := l.all (fun x => !(x == 0 || decide (N < varI x)))
def setLit (m : List Bool) (x : Int) : List Bool := m.set ((varI x).toNat - 1) (decide (0 < x))
def fixB (m : List Bool) (l : List Int) : List Bool := l.foldl setLit m
structure WV where
  l : CV
  c : CV
def stepB (m : List Bool) (x : WV) : List Bool := if valB m x.c.l then m else fixB m x.l.l
def extendB (m : List Bool) (st : List WV) : List Bool := st.foldr (fun x m => stepB m x) m
def okW (N : Int) (x : WV) : Bool := rightB N x.l.l && rightB N x.c.l
def okB (N : Int) (st : List WV) : Bool := st.all (okW N)
theorem fixB_length (l : List Int) : ∀ m, (fixB m l).length = m.length := by
  induction l with
  | nil => intro m; rfl
  | cons x l ih => intro m; simp only [fixB, List.foldl_cons] at ih ⊢; rw [ih]; simp [setLit]
theorem stepB_length (m : List Bool) (x : WV) : (stepB m x).length = m.length := by
  unfold stepB; split
  · rfl
  · exact fixB_length _ _
theorem extendB_length (m : List Bool) (st : List WV) : (extendB m st).length = m.length := by
  induction st with
  | nil => rfl
  | cons x st ih => simp only [extendB, List.foldr_cons] at ih ⊢; rw [stepB_length, ih]

/-- A stack of witnesses that can be read below B. -/
structure WtOk (B : Nat) (w : World) (a : Option Addr) (n : Nat) (st : List WV) : Prop where
  ln : n = st.length
  mx : n ≤ 9223372036854775807
  rd : 0 < st.length → ∃ b off, a = some ⟨b, off, none⟩ ∧ b < B ∧ ∀ i x, st[i]? = some x → w.cell? ⟨b, off + i * 2, none⟩ = some x.l.v ∧ w.cell? ⟨b, off + i * 2 + 1, none⟩ = some x.c.v
  all : ∀ x, x ∈ st → ClOk B w x.l ∧ ClOk B w x.c
theorem WtOk.below {B : Nat} {w w' : World} {a : Option Addr} {n : Nat} {st : List WV} (h : WtOk B w a n st) (hb : Below B w w') : WtOk B w' a n st :=
  ⟨h.ln, h.mx, fun hp => by
    obtain ⟨b, off, e, hx, hc⟩ := h.rd hp
    exact ⟨b, off, e, hx, fun i x hi => ⟨(hb.cell (p := ⟨b, off + i * 2, none⟩) hx).trans (hc i x hi).1, (hb.cell (p := ⟨b, off + i * 2 + 1, none⟩) hx).trans (hc i x hi).2⟩⟩,
   fun x hx => ⟨(h.all x hx).1.below hb, (h.all x hx).2.below hb⟩⟩
theorem WtOk.at_ {B : Nat} {w : World} {a : Option Addr} {n : Nat} {st : List WV} (h : WtOk B w a n st) {k : Nat} (hk : k < st.length) :
    ∃ b off, a = some ⟨b, off, none⟩ ∧ b < B ∧ w.cell? ⟨b, off + k * 2, none⟩ = some (st[k]'hk).l.v ∧ w.cell? ⟨b, off + k * 2 + 1, none⟩ = some (st[k]'hk).c.v := by
  obtain ⟨b, off, e, hx, hc⟩ := h.rd (by omega)
  exact ⟨b, off, e, hx, (hc k _ (List.getElem?_eq_getElem hk)).1, (hc k _ (List.getElem?_eq_getElem hk)).2⟩

theorem rright_any {B : Nat} {w : World} (hB : B ≤ w.heap.size) (x : CV) (hx : ClOk B w x) (N : Int) :
    Calls Try.prog 38 #[x.v, .int .i64 N] w fun e w' => e = .returned (.bool (rightB N x.l)) ∧ w = w' := by
  obtain ⟨A, n, C, l⟩ := x
  have HX := Lib.hid hx
  have HL := Lib.hid (show n = l.length from hx.ln)
  have HS := Lib.hid hB
  have hmx := hx.mx
  dsimp only at hmx
  clear hx hB
  dsimp only [CV.v]
  go_enter Try.func38, Try.ntmps38
  go_wp2_with fail
  go_loopw [5] (fun i wr => ∃ k : Nat, k ≤ n ∧ i = .int .i64 k ∧ (l.take k).all (fun x => !(x == 0 || decide (N < varI x))) = true ∧ w = wr) (fun i _ => n - (intOf i).toNat)
  case atStart => exact ⟨0, Nat.zero_le _, rfl, rfl, rfl⟩
  case round =>
    obtain ⟨k, hk, rfl, hf, rfl⟩ := hrel
    have HF := Lib.hid hf
    clear hf
    by_cases hlt : k < n
    · have hkl : k < l.length := by rw [← HL.out]; exact hlt
      obtain ⟨b, off, ha, hbl, hc⟩ := RdV.at_ (HX.out.rd.rd HS.out) (enc_at (enc := Value.int .i32) hkl)
      dsimp only at ha
      subst ha
      have HT := Lib.hid (show (l.take (k + 1)).all (fun x => !(x == 0 || decide (N < varI x))) = !(l[k]'hkl == 0 || decide (N < varI (l[k]'hkl))) by rw [List.take_succ_eq_append_getElem hkl, List.all_append, HF.out]; simp)
      have HM2 := Lib.hid (show l[k]'hkl ∈ l from List.getElem_mem hkl)
      have HC := Lib.hid (rVar_any (l[k]'hkl) (HX.out.lb _ HM2.out).1 (HX.out.lb _ HM2.out).2 w)
      have HA := Lib.hid (show (!(l[k]'hkl == 0 || decide (N < varI (l[k]'hkl)))) = false → rightB N l = false from fun h => by
        unfold rightB; rw [List.all_eq_false]; exact ⟨_, HM2.out, by simpa using h⟩)
      generalize l[k]'hkl = y at *
      clear hkl hbl
      by_cases h0 : y = 0
      · have HE := Lib.hid (HA.out (by rw [h0]; rfl))
        subst h0
        go_wp2
        go_ret
        exact ⟨by rw [HE.out]; rfl, rfl⟩
      · have h0' : (y == 0) = false := by simpa using h0
        rw [h0', Bool.false_or] at HA HT
        clear h0
        go_wp2_with fail
        refine HC.out.mono ?_
        rintro e w1 ⟨rfl, rfl⟩
        generalize varI y = v at *
        by_cases h1 : N < v
        · have HE := Lib.hid (HA.out (by rw [decide_eq_true h1]; rfl))
          go_wp2
          go_ret
          exact ⟨by rw [HE.out]; rfl, rfl⟩
        · have HE := Lib.hid (HT.out.trans (by rw [decide_eq_false h1]))
          go_wp2
          go_roundw
          case rel => exact ⟨k + 1, by omega, by go_num, HE.out, trivial⟩
          case measure => simp [intOf]; omega
    · have HE := Lib.hid (show rightB N l = true by
        have := HF.out
        rwa [List.take_of_length_le (by rw [← HL.out]; omega)] at this)
      go_wp2
      go_ret
      exact ⟨by rw [HE.out]; rfl, rfl⟩
end Go.Proofs.Ytfpohiflpemkjaa.Ex
