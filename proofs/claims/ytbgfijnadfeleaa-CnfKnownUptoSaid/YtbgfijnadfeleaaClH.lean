/- cnf.Holds and the document's Holds at any row of clauses and any model. -/
import Derived.Test.YtbgfijnadfeleaaClV
import Derived.Test.YtbgfijnadfeleaaFnC
namespace Go.Proofs.Ytbgfijnadfeleaa.Cl
open Go.RowKit Go.Proofs.Ytbgfijnadfeleaa.Mem Go.Proofs.Ytbgfijnadfeleaa.Sl Go.Shelf
open Go.Proofs.Ytbgfijnadfeleaa.FnL (Pred enc_at below_then)
set_option linter.unusedVariables false

/-- A row of clauses that can be read below B. -/
structure ClsOk (B : Nat) (w : World) (a : Option Addr) (n : Nat) (cs : List CV) : Prop where
  ln : n = cs.length
  mx : n ≤ 9223372036854775807
  rd : RdB B w a (cs.map CV.v)
  all : ∀ x, x ∈ cs → ClOk B w x
theorem ClsOk.below {B : Nat} {w w' : World} {a : Option Addr} {n : Nat} {cs : List CV} (h : ClsOk B w a n cs) (hb : Below B w w') : ClsOk B w' a n cs := ⟨h.ln, h.mx, h.rd.below hb, fun x hx => (h.all x hx).below hb⟩
theorem ClsOk.up {B B' : Nat} {w : World} {a : Option Addr} {n : Nat} {cs : List CV} (h : ClsOk B w a n cs) (hB : B ≤ B') : ClsOk B' w a n cs := ⟨h.ln, h.mx, RdB.up h.rd hB, fun x hx => (h.all x hx).up hB⟩
def holdsB (m : List Bool) (cs : List CV) : Bool := cs.all (fun x => valB m x.l)
theorem holds1_any {B : Nat} {a : Option Addr} {n c g : Nat} {m : List Bool} {w : World} (hB : B ≤ w.heap.size) (hm : MdOk B w a n m) (x : CV) (hx : ClOk B w x) (c2 : w.cell? ⟨g, 0, none⟩ = some (.slice a n c)) :
    Calls Try.prog 45 #[x.v, .pointer (some ⟨g, 0, none⟩)] w fun e w' => e = .returned (.bool (!valB m x.l)) ∧ Below w.heap.size w w' := by
  have HC := Lib.hid (Value_any (c := c) hB hm x hx)
  clear hm hx
  generalize x.v = v at *
  go_enter Try.func45, Try.ntmps45
  go_wp2_with fail
  refine HC.out.mono ?_
  rintro e w1 ⟨rfl, hb1⟩
  go_wp2
  go_ret
  exact ⟨rfl, hb1⟩
theorem Holds_any {B : Nat} {a ca : Option Addr} {n c cn cc : Nat} {vars : Int} {m : List Bool} {cs : List CV} {w : World} (hB : B ≤ w.heap.size) (hm : MdOk B w a n m) (hx : ClsOk B w ca cn cs) :
    Calls Try.prog 27 #[.agg #[.int .i64 vars, .slice ca cn cc], .slice a n c] w fun e w' => e = .returned (.bool (holdsB m cs)) ∧ Below w.heap.size w w' := by
  have HM := Lib.hid hm
  have HX := Lib.hid hx
  have HS := Lib.hid hB
  clear hm hx hB
  go_enter Try.func27, Try.ntmps27
  go_upto_region 1 with (fail)
  obtain ⟨W, hW⟩ : ∃ W, W = (w.alloc (.cells #[.int .i64 vars, .slice ca cn cc] 41)).alloc (.cells #[.slice a n c] 25) := ⟨_, rfl⟩
  rw [← hW]
  have HB := Lib.hid (show Below w.heap.size w W from hW ▸ ((Below.refl _ w).alloc (Nat.le_refl _) _).alloc (by simp) _)
  have hs : W.heap.size = w.heap.size + 2 := by rw [hW]; simp
  have k1 : W.cell? ⟨w.heap.size, 1, none⟩ = some (.slice ca cn cc) := by
    rw [hW]; simp
  have k2 : W.cell? ⟨w.heap.size + 1, 0, none⟩ = some (.slice a n c) := by
    rw [hW]; simp
  have HC := Lib.hid (FnC.containsFunc_any CV.v ca cc 45 #[.pointer (some ⟨w.heap.size + 1, 0, none⟩)] (fun x => !valB m x.l) cs cn HX.out.ln HX.out.mx W
    ((HX.out.below (HB.out.mono HS.out)).rd.rd (by have := HS.out; omega))
    ⟨enters_of Try.func45 (by kernel_rfl) rfl, fun y hy W2 hb2 => holds1_any (c := c) (B := B) (by have := hb2.size; have := HS.out; omega) ((HM.out.below (HB.out.mono HS.out)).below (hb2.mono (by have := HS.out; omega))) y
      (((HX.out.all y hy).below (HB.out.mono HS.out)).below (hb2.mono (by have := HS.out; omega)))
      ((hb2.cell (p := ⟨w.heap.size + 1, 0, none⟩) (by show w.heap.size + 1 < _; omega)).trans k2)⟩)
  have HE := Lib.hid (show (!(cs.any fun x => !valB m x.l)) = holdsB m cs by unfold holdsB; simp [List.all_eq_not_any_not])
  clear k2 hs hW
  go_wp2_with fail
  refine HC.out.mono ?_
  rintro e w1 ⟨rfl, hb1⟩
  have HB1 := Lib.hid (below_then HB.out hb1 HB.out.size)
  clear hb1
  generalize (cs.any fun x => !valB m x.l) = r at *
  go_wp2
  go_ret
  exact ⟨by rw [← HE.out]; rfl, HB1.out⟩
theorem rHolds_any {B : Nat} {a ca : Option Addr} {n c cn cc : Nat} {vars : Int} {m : List Bool} {cs : List CV} {w : World} (hB : B ≤ w.heap.size) (hm : MdOk B w a n m) (hx : ClsOk B w ca cn cs) :
    Calls Try.prog 28 #[.agg #[.int .i64 vars, .slice ca cn cc], .slice a n c] w fun e w' => e = .returned (.bool (holdsB m cs)) ∧ Below w.heap.size w w' := by
  have HM := Lib.hid hm
  have HX := Lib.hid hx
  have HS := Lib.hid hB
  have HL := Lib.hid hx.ln
  have hmx := hx.mx
  clear hm hx hB
  go_enter Try.func28, Try.ntmps28
  go_upto_region 1 with (fail)
  obtain ⟨W, hW⟩ : ∃ W, W = w.alloc (.cells #[.int .i64 vars, .slice ca cn cc] 41) := ⟨_, rfl⟩
  rw [← hW]
  have HB0 := Lib.hid (show Below w.heap.size w W from hW ▸ ((Below.refl _ w).alloc (Nat.le_refl _) _))
  have hs : W.heap.size = w.heap.size + 1 := by rw [hW]; simp
  have K1 := Lib.hid (show W.cell? ⟨w.heap.size, 1, none⟩ = some (.slice ca cn cc) by rw [hW]; simp)
  have HW := Lib.hid hs
  clear hs hW
  go_wp2_with fail
  go_loopw [5] (fun i wr => ∃ k : Nat, k ≤ cn ∧ i = .int .i64 k ∧ (cs.take k).all (fun x => valB m x.l) = true ∧ Below W.heap.size W wr) (fun i _ => cn - (intOf i).toNat)
  case atStart => exact ⟨0, Nat.zero_le _, rfl, rfl, Below.refl _ _⟩
  case round =>
    obtain ⟨k, hk, rfl, hf, hb⟩ := hrel
    have HF := Lib.hid hf
    have HB1 := Lib.hid hb
    have HB := Lib.hid (below_then HB0.out hb HB0.out.size)
    have k1 : wr.cell? ⟨w.heap.size, 1, none⟩ = some (.slice ca cn cc) := (hb.cell (p := ⟨w.heap.size, 1, none⟩) (by have := HW.out; show w.heap.size < _; omega)).trans K1.out
    clear hf hb
    by_cases hlt : k < cn
    · have hkl : k < cs.length := by rw [← HL.out]; exact hlt
      obtain ⟨b, off, ha, hbl, hc⟩ := RdV.at_ ((HX.out.below (HB.out.mono HS.out)).rd.rd (Nat.le_trans HS.out HB.out.size)) (enc_at (enc := CV.v) hkl)
      subst ha
      have HT := Lib.hid (show (cs.take (k + 1)).all (fun x => valB m x.l) = valB m (cs[k]'hkl).l by rw [List.take_succ_eq_append_getElem hkl, List.all_append, HF.out]; simp)
      have HM2 := Lib.hid (show cs[k]'hkl ∈ cs from List.getElem_mem hkl)
      have HC := Lib.hid (rValue_any (c := c) (Nat.le_trans HS.out HB.out.size) (HM.out.below (HB.out.mono HS.out)) (cs[k]'hkl) ((HX.out.all _ HM2.out).below (HB.out.mono HS.out)))
      have HA := Lib.hid (show valB m (cs[k]'hkl).l = false → holdsB m cs = false from fun h => by
        unfold holdsB; rw [List.all_eq_false]; exact ⟨_, HM2.out, by rw [h]; simp⟩)
      generalize cs[k]'hkl = y at *
      generalize y.v = v at *
      clear hkl hbl
      go_wp2_with fail
      refine HC.out.mono ?_
      rintro e w1 ⟨rfl, hb1⟩
      have HB2 := Lib.hid (below_then HB1.out hb1 HB1.out.size)
      clear hb1
      cases hy : valB m y.l with
      | false =>
        have HE := Lib.hid (HA.out hy)
        clear hy
        go_wp2
        go_ret
        exact ⟨by rw [HE.out]; rfl, below_then HB0.out HB2.out HB0.out.size⟩
      | true =>
        have HE := Lib.hid (HT.out.trans hy)
        clear hy
        go_wp2
        go_roundw
        case rel => exact ⟨k + 1, by omega, by go_num, HE.out, HB2.out⟩
        case measure => simp [intOf]; omega
    · have HE := Lib.hid (show holdsB m cs = true by
        have := HF.out
        rwa [List.take_of_length_le (by rw [← HL.out]; omega)] at this)
      go_wp2
      go_ret
      exact ⟨by rw [HE.out]; rfl, HB.out⟩
end Go.Proofs.Ytbgfijnadfeleaa.Cl
