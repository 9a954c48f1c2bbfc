/- The walk of ExtendKnown (printed by wip/tools/gen_known08.py). -/
import Derived.Test.YtfpohiflpemkjaaGw
namespace Go.Proofs.Ytfpohiflpemkjaa.Ex
open Go.RowKit Go.Proofs.Ytfpohiflpemkjaa.Mem Go.Proofs.Ytfpohiflpemkjaa.Sl Go.Proofs.Ytfpohiflpemkjaa.Cl Go.Proofs.Ytfpohiflpemkjaa.App Go.Shelf
open Go.Proofs.Ytfpohiflpemkjaa.FnL (Pred enc_at below_then)
set_option linter.unusedVariables false

structure MV where
  A : Option Addr
  n : Nat
  m : List Bool
def MV.v (x : MV) : Value := .slice x.A x.n x.n
structure SV where
  A : Option Addr
  n : Nat
  st : List WV
def SV.v (x : SV) : Value := .slice x.A x.n x.n
def MOk (B : Nat) (w : World) (x : MV) : Prop := MdOk B w x.A x.n x.m ∧ (x.A = none → x.n = 0)
def SOk (B : Nat) (w : World) (x : SV) : Prop := WtOk B w x.A x.n x.st
theorem SOk.below {B : Nat} {w w' : World} {x : SV} (h : SOk B w x) (hb : Below B w w') : SOk B w' x := WtOk.below h hb
theorem MOk.below {B : Nat} {w w' : World} {x : MV} (h : MOk B w x) (hb : Below B w w') : MOk B w' x := ⟨h.1.below hb, h.2⟩
theorem WtOk.up {B B' : Nat} {w : World} {a : Option Addr} {n : Nat} {st : List WV} (h : WtOk B w a n st) (hB : B ≤ B') : WtOk B' w a n st :=
  ⟨h.ln, h.mx, fun hp => by
    obtain ⟨b, off, e, hx, hc⟩ := h.rd hp
    exact ⟨b, off, e, by omega, hc⟩, fun x hx => ⟨(h.all x hx).1.up hB, (h.all x hx).2.up hB⟩⟩
set_option maxRecDepth 100000 in
set_option maxHeartbeats 8000000 in
theorem known_any (w : World) :
    Calls Try.prog 5 #[] w fun e w' => e = .returned (.bool true) ∧ Below w.heap.size w w' := by
  go_enter Try.func5, Try.ntmps5
  go_wp2_with fail
  obtain ⟨W, haW⟩ : ∃ W, W = (((((((((((w.alloc (Obj.cells #[Value.int IntKind.i32 2] 47)).alloc (Obj.cells #[Value.int IntKind.i32 1, Value.int IntKind.i32 2] 47)).alloc (Obj.cells #[Value.int IntKind.i32 1, Value.int IntKind.i32 (-2)] 47)).alloc (Obj.cells #[Value.int IntKind.i32 1] 47)).alloc (Obj.cells #[Value.slice (some { block := w.heap.size, off := 0 }) 1 1, Value.slice (some { block := w.heap.size + 1, off := 0 }) 2 2] 42)).alloc (Obj.cells #[Value.slice (some { block := w.heap.size + 1 + 1, off := 0 }) 2 2, Value.slice (some { block := w.heap.size + 1 + 1 + 1, off := 0 }) 1 1] 42)).alloc (Obj.cells #[Value.bool true] 4)).alloc (Obj.cells #[Value.bool false, Value.bool false] 4)).alloc (Obj.cells #[Value.bool false, Value.bool true] 4)).alloc (Obj.cells #[Value.bool true, Value.bool true, Value.bool false] 4)).alloc (Obj.cells #[Value.slice none 0 0, Value.slice (some { block := w.heap.size + 1 + 1 + 1 + 1 + 1 + 1, off := 0 }) 1 1, Value.slice (some { block := w.heap.size + 1 + 1 + 1 + 1 + 1 + 1 + 1, off := 0 }) 2 2, Value.slice (some { block := w.heap.size + 1 + 1 + 1 + 1 + 1 + 1 + 1 + 1, off := 0 }) 2 2, Value.slice (some { block := w.heap.size + 1 + 1 + 1 + 1 + 1 + 1 + 1 + 1 + 1, off := 0 }) 3 3] 23)) := ⟨_, rfl⟩
  rw [← haW]
  have has : W.heap.size = w.heap.size + 11 := by rw [haW]; simp
  have HaB := Lib.hid (show Below w.heap.size w W by
    rw [haW]
    exact (((((((((((Below.refl _ w).alloc (Nat.le_refl _) _).alloc (by simp) _).alloc (by simp; omega) _).alloc (by simp; omega) _).alloc (by simp; omega) _).alloc (by simp; omega) _).alloc (by simp; omega) _).alloc (by simp; omega) _).alloc (by simp; omega) _).alloc (by simp; omega) _).alloc (by simp; omega) _)
  obtain ⟨ms, hms⟩ : ∃ ms : List MV, ms = [(⟨none, 0, []⟩ : MV), ⟨some ⟨w.heap.size + 1 + 1 + 1 + 1 + 1 + 1, 0, none⟩, 1, [true]⟩, ⟨some ⟨w.heap.size + 1 + 1 + 1 + 1 + 1 + 1 + 1, 0, none⟩, 2, [false, false]⟩, ⟨some ⟨w.heap.size + 1 + 1 + 1 + 1 + 1 + 1 + 1 + 1, 0, none⟩, 2, [false, true]⟩, ⟨some ⟨w.heap.size + 1 + 1 + 1 + 1 + 1 + 1 + 1 + 1 + 1, 0, none⟩, 3, [true, true, false]⟩] := ⟨_, rfl⟩
  have hml : ms.length = 5 := by rw [hms]; rfl
  have HMS := Lib.hid (show ∀ x, x ∈ ms → MOk W.heap.size W x by
    rw [hms]
    exact (by intro z hz; rcases List.mem_cons.1 hz with rfl | hz; exact ⟨md_nil, fun _ => rfl⟩; rcases List.mem_cons.1 hz with rfl | hz; exact ⟨(md_blk (W := W) (B := W.heap.size) (g := w.heap.size + 1 + 1 + 1 + 1 + 1 + 1) (n := 1) (t := 4) (m := [true]) (by rw [haW]; repeat (first | exact blk_here (by simp) | refine Blk.alloc ?_ _)) (by omega) rfl (by decide)), fun h => by cases h⟩; rcases List.mem_cons.1 hz with rfl | hz; exact ⟨(md_blk (W := W) (B := W.heap.size) (g := w.heap.size + 1 + 1 + 1 + 1 + 1 + 1 + 1) (n := 2) (t := 4) (m := [false, false]) (by rw [haW]; repeat (first | exact blk_here (by simp) | refine Blk.alloc ?_ _)) (by omega) rfl (by decide)), fun h => by cases h⟩; rcases List.mem_cons.1 hz with rfl | hz; exact ⟨(md_blk (W := W) (B := W.heap.size) (g := w.heap.size + 1 + 1 + 1 + 1 + 1 + 1 + 1 + 1) (n := 2) (t := 4) (m := [false, true]) (by rw [haW]; repeat (first | exact blk_here (by simp) | refine Blk.alloc ?_ _)) (by omega) rfl (by decide)), fun h => by cases h⟩; rcases List.mem_cons.1 hz with rfl | hz; exact ⟨(md_blk (W := W) (B := W.heap.size) (g := w.heap.size + 1 + 1 + 1 + 1 + 1 + 1 + 1 + 1 + 1) (n := 3) (t := 4) (m := [true, true, false]) (by rw [haW]; repeat (first | exact blk_here (by simp) | refine Blk.alloc ?_ _)) (by omega) rfl (by decide)), fun h => by cases h⟩; cases hz))
  have HMT := Lib.hid (show Blk W (w.heap.size + 1 + 1 + 1 + 1 + 1 + 1 + 1 + 1 + 1 + 1) 23 (ms.map MV.v).toArray by rw [hms]; exact (by rw [haW]; repeat (first | exact blk_here (by simp) | refine Blk.alloc ?_ _)))
  have KA := Lib.hid (show Blk W (w.heap.size + 1 + 1 + 1 + 1) 42 #[Value.slice (some { block := w.heap.size, off := 0 }) 1 1, Value.slice (some { block := w.heap.size + 1, off := 0 }) 2 2] from (by rw [haW]; repeat (first | exact blk_here (by simp) | refine Blk.alloc ?_ _)))
  have KB := Lib.hid (show Blk W (w.heap.size + 1 + 1 + 1 + 1 + 1) 42 #[Value.slice (some { block := w.heap.size + 1 + 1, off := 0 }) 2 2, Value.slice (some { block := w.heap.size + 1 + 1 + 1, off := 0 }) 1 1] from (by rw [haW]; repeat (first | exact blk_here (by simp) | refine Blk.alloc ?_ _)))
  have C0 := Lib.hid (cl_blk (W := W) (B := W.heap.size) (g := w.heap.size) (n := 1) (c := 1) (t := 47) (l := [2]) (by rw [haW]; repeat (first | exact blk_here (by simp) | refine Blk.alloc ?_ _)) (by omega) rfl (by decide) (by decide))
  have C1 := Lib.hid (cl_blk (W := W) (B := W.heap.size) (g := w.heap.size + 1) (n := 2) (c := 2) (t := 47) (l := [1, 2]) (by rw [haW]; repeat (first | exact blk_here (by simp) | refine Blk.alloc ?_ _)) (by omega) rfl (by decide) (by decide))
  have C2 := Lib.hid (cl_blk (W := W) (B := W.heap.size) (g := w.heap.size + 1 + 1) (n := 2) (c := 2) (t := 47) (l := [1, -2]) (by rw [haW]; repeat (first | exact blk_here (by simp) | refine Blk.alloc ?_ _)) (by omega) rfl (by decide) (by decide))
  have C3 := Lib.hid (cl_blk (W := W) (B := W.heap.size) (g := w.heap.size + 1 + 1 + 1) (n := 1) (c := 1) (t := 47) (l := [1]) (by rw [haW]; repeat (first | exact blk_here (by simp) | refine Blk.alloc ?_ _)) (by omega) rfl (by decide) (by decide))
  have HMN := Lib.hid hml
  have HWS := Lib.hid has
  clear haW hml hms
  have HLT := Lib.hid (show w.heap.size + 1 + 1 + 1 + 1 < W.heap.size ∧ w.heap.size + 1 + 1 + 1 + 1 + 1 < W.heap.size by omega)
  clear has
  generalize w.heap.size + 1 + 1 + 1 + 1 + 1 = bb at *
  generalize w.heap.size + 1 + 1 + 1 + 1 = ba at *
  go_loopw [20] (fun i wr => ∃ k : Nat, k ≤ 5 ∧ i = .int .i64 k ∧ Below W.heap.size W wr) (fun i _ => 5 - (intOf i).toNat)
  case atStart => exact ⟨0, Nat.zero_le _, rfl, Below.refl _ _⟩
  case round =>
    obtain ⟨k, hk, rfl, hb⟩ := hrel
    have HB := Lib.hid hb
    have a0 := (KA.out.below hb).cell 0
    have a1 := (KA.out.below hb).cell 1
    have b0 := (KB.out.below hb).cell 0
    have b1 := (KB.out.below hb).cell 1
    simp only [List.getElem?_toArray, List.getElem?_cons_zero, List.getElem?_cons_succ] at a0 a1 b0 b1
    by_cases hlt : k < 5
    · have hlt' : (k : Int) < 5 := by omega
      have hkl : k < ms.length := by rw [HMN.out]; exact hlt
      have HMO := Lib.hid ((HMS.out _ (List.getElem_mem hkl)).below hb)
      have hc : wr.cell? ⟨bb + 1 + 1 + 1 + 1 + 1, k, none⟩ = some (ms[k]'hkl).v := by
        rw [(HMT.out.below hb).cell k]; simp [hkl]
      generalize ms[k]'hkl = x at *
      obtain ⟨mA, mn, mm⟩ := x
      dsimp only [MV.v] at hc
      have na0 : ba < wr.heap.size := by have := HLT.out; have := hb.size; omega
      have ma0 : ba ≤ wr.heap.size := by have := HLT.out; have := hb.size; omega
      have nb0 : bb < wr.heap.size := by have := HLT.out; have := hb.size; omega
      have mb0 : bb ≤ wr.heap.size := by have := HLT.out; have := hb.size; omega
      have na1 : ba < wr.heap.size + 1 := by have := HLT.out; have := hb.size; omega
      have ma1 : ba ≤ wr.heap.size + 1 := by have := HLT.out; have := hb.size; omega
      have nb1 : bb < wr.heap.size + 1 := by have := HLT.out; have := hb.size; omega
      have mb1 : bb ≤ wr.heap.size + 1 := by have := HLT.out; have := hb.size; omega
      have na2 : ba < wr.heap.size + 1 + 1 := by have := HLT.out; have := hb.size; omega
      have ma2 : ba ≤ wr.heap.size + 1 + 1 := by have := HLT.out; have := hb.size; omega
      have nb2 : bb < wr.heap.size + 1 + 1 := by have := HLT.out; have := hb.size; omega
      have mb2 : bb ≤ wr.heap.size + 1 + 1 := by have := HLT.out; have := hb.size; omega
      have na3 : ba < wr.heap.size + 1 + 1 + 1 := by have := HLT.out; have := hb.size; omega
      have ma3 : ba ≤ wr.heap.size + 1 + 1 + 1 := by have := HLT.out; have := hb.size; omega
      have nb3 : bb < wr.heap.size + 1 + 1 + 1 := by have := HLT.out; have := hb.size; omega
      have mb3 : bb ≤ wr.heap.size + 1 + 1 + 1 := by have := HLT.out; have := hb.size; omega
      have na4 : ba < wr.heap.size + 1 + 1 + 1 + 1 := by have := HLT.out; have := hb.size; omega
      have ma4 : ba ≤ wr.heap.size + 1 + 1 + 1 + 1 := by have := HLT.out; have := hb.size; omega
      have nb4 : bb < wr.heap.size + 1 + 1 + 1 + 1 := by have := HLT.out; have := hb.size; omega
      have mb4 : bb ≤ wr.heap.size + 1 + 1 + 1 + 1 := by have := HLT.out; have := hb.size; omega
      have na5 : ba < wr.heap.size + 1 + 1 + 1 + 1 + 1 := by have := HLT.out; have := hb.size; omega
      have ma5 : ba ≤ wr.heap.size + 1 + 1 + 1 + 1 + 1 := by have := HLT.out; have := hb.size; omega
      have nb5 : bb < wr.heap.size + 1 + 1 + 1 + 1 + 1 := by have := HLT.out; have := hb.size; omega
      have mb5 : bb ≤ wr.heap.size + 1 + 1 + 1 + 1 + 1 := by have := HLT.out; have := hb.size; omega
      have na6 : ba < wr.heap.size + 1 + 1 + 1 + 1 + 1 + 1 := by have := HLT.out; have := hb.size; omega
      have ma6 : ba ≤ wr.heap.size + 1 + 1 + 1 + 1 + 1 + 1 := by have := HLT.out; have := hb.size; omega
      have nb6 : bb < wr.heap.size + 1 + 1 + 1 + 1 + 1 + 1 := by have := HLT.out; have := hb.size; omega
      have mb6 : bb ≤ wr.heap.size + 1 + 1 + 1 + 1 + 1 + 1 := by have := HLT.out; have := hb.size; omega
      have na7 : ba < wr.heap.size + 1 + 1 + 1 + 1 + 1 + 1 + 1 := by have := HLT.out; have := hb.size; omega
      have ma7 : ba ≤ wr.heap.size + 1 + 1 + 1 + 1 + 1 + 1 + 1 := by have := HLT.out; have := hb.size; omega
      have nb7 : bb < wr.heap.size + 1 + 1 + 1 + 1 + 1 + 1 + 1 := by have := HLT.out; have := hb.size; omega
      have mb7 : bb ≤ wr.heap.size + 1 + 1 + 1 + 1 + 1 + 1 + 1 := by have := HLT.out; have := hb.size; omega
      have na8 : ba < wr.heap.size + 1 + 1 + 1 + 1 + 1 + 1 + 1 + 1 := by have := HLT.out; have := hb.size; omega
      have ma8 : ba ≤ wr.heap.size + 1 + 1 + 1 + 1 + 1 + 1 + 1 + 1 := by have := HLT.out; have := hb.size; omega
      have nb8 : bb < wr.heap.size + 1 + 1 + 1 + 1 + 1 + 1 + 1 + 1 := by have := HLT.out; have := hb.size; omega
      have mb8 : bb ≤ wr.heap.size + 1 + 1 + 1 + 1 + 1 + 1 + 1 + 1 := by have := HLT.out; have := hb.size; omega
      have na9 : ba < wr.heap.size + 1 + 1 + 1 + 1 + 1 + 1 + 1 + 1 + 1 := by have := HLT.out; have := hb.size; omega
      have ma9 : ba ≤ wr.heap.size + 1 + 1 + 1 + 1 + 1 + 1 + 1 + 1 + 1 := by have := HLT.out; have := hb.size; omega
      have nb9 : bb < wr.heap.size + 1 + 1 + 1 + 1 + 1 + 1 + 1 + 1 + 1 := by have := HLT.out; have := hb.size; omega
      have mb9 : bb ≤ wr.heap.size + 1 + 1 + 1 + 1 + 1 + 1 + 1 + 1 + 1 := by have := HLT.out; have := hb.size; omega
      have na10 : ba < wr.heap.size + 1 + 1 + 1 + 1 + 1 + 1 + 1 + 1 + 1 + 1 := by have := HLT.out; have := hb.size; omega
      have ma10 : ba ≤ wr.heap.size + 1 + 1 + 1 + 1 + 1 + 1 + 1 + 1 + 1 + 1 := by have := HLT.out; have := hb.size; omega
      have nb10 : bb < wr.heap.size + 1 + 1 + 1 + 1 + 1 + 1 + 1 + 1 + 1 + 1 := by have := HLT.out; have := hb.size; omega
      have mb10 : bb ≤ wr.heap.size + 1 + 1 + 1 + 1 + 1 + 1 + 1 + 1 + 1 + 1 := by have := HLT.out; have := hb.size; omega
      have na11 : ba < wr.heap.size + 1 + 1 + 1 + 1 + 1 + 1 + 1 + 1 + 1 + 1 + 1 := by have := HLT.out; have := hb.size; omega
      have ma11 : ba ≤ wr.heap.size + 1 + 1 + 1 + 1 + 1 + 1 + 1 + 1 + 1 + 1 + 1 := by have := HLT.out; have := hb.size; omega
      have nb11 : bb < wr.heap.size + 1 + 1 + 1 + 1 + 1 + 1 + 1 + 1 + 1 + 1 + 1 := by have := HLT.out; have := hb.size; omega
      have mb11 : bb ≤ wr.heap.size + 1 + 1 + 1 + 1 + 1 + 1 + 1 + 1 + 1 + 1 + 1 := by have := HLT.out; have := hb.size; omega
      have na12 : ba < wr.heap.size + 1 + 1 + 1 + 1 + 1 + 1 + 1 + 1 + 1 + 1 + 1 + 1 := by have := HLT.out; have := hb.size; omega
      have ma12 : ba ≤ wr.heap.size + 1 + 1 + 1 + 1 + 1 + 1 + 1 + 1 + 1 + 1 + 1 + 1 := by have := HLT.out; have := hb.size; omega
      have nb12 : bb < wr.heap.size + 1 + 1 + 1 + 1 + 1 + 1 + 1 + 1 + 1 + 1 + 1 + 1 := by have := HLT.out; have := hb.size; omega
      have mb12 : bb ≤ wr.heap.size + 1 + 1 + 1 + 1 + 1 + 1 + 1 + 1 + 1 + 1 + 1 + 1 := by have := HLT.out; have := hb.size; omega
      have na13 : ba < wr.heap.size + 1 + 1 + 1 + 1 + 1 + 1 + 1 + 1 + 1 + 1 + 1 + 1 + 1 := by have := HLT.out; have := hb.size; omega
      have ma13 : ba ≤ wr.heap.size + 1 + 1 + 1 + 1 + 1 + 1 + 1 + 1 + 1 + 1 + 1 + 1 + 1 := by have := HLT.out; have := hb.size; omega
      have nb13 : bb < wr.heap.size + 1 + 1 + 1 + 1 + 1 + 1 + 1 + 1 + 1 + 1 + 1 + 1 + 1 := by have := HLT.out; have := hb.size; omega
      have mb13 : bb ≤ wr.heap.size + 1 + 1 + 1 + 1 + 1 + 1 + 1 + 1 + 1 + 1 + 1 + 1 + 1 := by have := HLT.out; have := hb.size; omega
      have na14 : ba < wr.heap.size + 1 + 1 + 1 + 1 + 1 + 1 + 1 + 1 + 1 + 1 + 1 + 1 + 1 + 1 := by have := HLT.out; have := hb.size; omega
      have ma14 : ba ≤ wr.heap.size + 1 + 1 + 1 + 1 + 1 + 1 + 1 + 1 + 1 + 1 + 1 + 1 + 1 + 1 := by have := HLT.out; have := hb.size; omega
      have nb14 : bb < wr.heap.size + 1 + 1 + 1 + 1 + 1 + 1 + 1 + 1 + 1 + 1 + 1 + 1 + 1 + 1 := by have := HLT.out; have := hb.size; omega
      have mb14 : bb ≤ wr.heap.size + 1 + 1 + 1 + 1 + 1 + 1 + 1 + 1 + 1 + 1 + 1 + 1 + 1 + 1 := by have := HLT.out; have := hb.size; omega
      have na15 : ba < wr.heap.size + 1 + 1 + 1 + 1 + 1 + 1 + 1 + 1 + 1 + 1 + 1 + 1 + 1 + 1 + 1 := by have := HLT.out; have := hb.size; omega
      have ma15 : ba ≤ wr.heap.size + 1 + 1 + 1 + 1 + 1 + 1 + 1 + 1 + 1 + 1 + 1 + 1 + 1 + 1 + 1 := by have := HLT.out; have := hb.size; omega
      have nb15 : bb < wr.heap.size + 1 + 1 + 1 + 1 + 1 + 1 + 1 + 1 + 1 + 1 + 1 + 1 + 1 + 1 + 1 := by have := HLT.out; have := hb.size; omega
      have mb15 : bb ≤ wr.heap.size + 1 + 1 + 1 + 1 + 1 + 1 + 1 + 1 + 1 + 1 + 1 + 1 + 1 + 1 + 1 := by have := HLT.out; have := hb.size; omega
      have na16 : ba < wr.heap.size + 1 + 1 + 1 + 1 + 1 + 1 + 1 + 1 + 1 + 1 + 1 + 1 + 1 + 1 + 1 + 1 := by have := HLT.out; have := hb.size; omega
      have ma16 : ba ≤ wr.heap.size + 1 + 1 + 1 + 1 + 1 + 1 + 1 + 1 + 1 + 1 + 1 + 1 + 1 + 1 + 1 + 1 := by have := HLT.out; have := hb.size; omega
      have nb16 : bb < wr.heap.size + 1 + 1 + 1 + 1 + 1 + 1 + 1 + 1 + 1 + 1 + 1 + 1 + 1 + 1 + 1 + 1 := by have := HLT.out; have := hb.size; omega
      have mb16 : bb ≤ wr.heap.size + 1 + 1 + 1 + 1 + 1 + 1 + 1 + 1 + 1 + 1 + 1 + 1 + 1 + 1 + 1 + 1 := by have := HLT.out; have := hb.size; omega
      have na17 : ba < wr.heap.size + 1 + 1 + 1 + 1 + 1 + 1 + 1 + 1 + 1 + 1 + 1 + 1 + 1 + 1 + 1 + 1 + 1 := by have := HLT.out; have := hb.size; omega
      have ma17 : ba ≤ wr.heap.size + 1 + 1 + 1 + 1 + 1 + 1 + 1 + 1 + 1 + 1 + 1 + 1 + 1 + 1 + 1 + 1 + 1 := by have := HLT.out; have := hb.size; omega
      have nb17 : bb < wr.heap.size + 1 + 1 + 1 + 1 + 1 + 1 + 1 + 1 + 1 + 1 + 1 + 1 + 1 + 1 + 1 + 1 + 1 := by have := HLT.out; have := hb.size; omega
      have mb17 : bb ≤ wr.heap.size + 1 + 1 + 1 + 1 + 1 + 1 + 1 + 1 + 1 + 1 + 1 + 1 + 1 + 1 + 1 + 1 + 1 := by have := HLT.out; have := hb.size; omega
      obtain ⟨base, hbase⟩ : ∃ base : World, base = wr := ⟨_, rfl⟩
      subst hbase
      clear hb hkl
      go_wp2_with fail
      obtain ⟨W6, hcW⟩ : ∃ W6, W6 = ((((((((((((((((((base.alloc (Obj.cells #[Value.slice (some { block := w.heap.size, off := 0 }) 1 1, Value.slice (some { block := w.heap.size + 1, off := 0 }) 2 2] 42)).alloc (Obj.cells #[Value.slice (some { block := w.heap.size + 1 + 1, off := 0 }) 2 2, Value.slice (some { block := w.heap.size + 1 + 1 + 1, off := 0 }) 1 1] 42)).alloc (Obj.cells #[Value.slice (some { block := w.heap.size, off := 0 }) 1 1, Value.slice (some { block := w.heap.size + 1, off := 0 }) 2 2, Value.slice (some { block := w.heap.size + 1 + 1, off := 0 }) 2 2, Value.slice (some { block := w.heap.size + 1 + 1 + 1, off := 0 }) 1 1] 42)).alloc (Obj.cells #[Value.slice (some { block := w.heap.size + 1 + 1, off := 0 }) 2 2, Value.slice (some { block := w.heap.size + 1 + 1 + 1, off := 0 }) 1 1, Value.slice (some { block := w.heap.size, off := 0 }) 1 1, Value.slice (some { block := w.heap.size + 1, off := 0 }) 2 2] 42)).alloc (Obj.cells #[Value.slice (some { block := w.heap.size, off := 0 }) 1 1, Value.slice (some { block := w.heap.size + 1, off := 0 }) 2 2, Value.slice (some { block := w.heap.size, off := 0 }) 1 1, Value.slice (some { block := w.heap.size + 1, off := 0 }) 2 2] 42)).alloc (Obj.cells #[Value.slice none 0 0, Value.slice none 0 0] 42)).alloc (Obj.cells #[Value.int IntKind.i32 1, Value.int IntKind.i32 (-1)] 47)).alloc (Obj.cells #[Value.slice (some { block := base.heap.size + 1 + 1 + 1 + 1 + 1 + 1, off := 0 }) 2 2, Value.slice none 0 0] 42)).alloc (Obj.cells #[Value.int IntKind.i32 0] 47)).alloc (Obj.cells #[Value.slice (some { block := base.heap.size + 1 + 1 + 1 + 1 + 1 + 1 + 1 + 1, off := 0 }) 1 1, Value.slice none 0 0] 42)).alloc (Obj.cells #[Value.int IntKind.i32 3] 47)).alloc (Obj.cells #[Value.slice none 0 0, Value.slice (some { block := base.heap.size + 1 + 1 + 1 + 1 + 1 + 1 + 1 + 1 + 1 + 1, off := 0 }) 1 1] 42)).alloc (Obj.cells #[Value.int IntKind.i32 (-2147483648)] 47)).alloc (Obj.cells #[Value.int IntKind.i32 1] 47)).alloc (Obj.cells #[Value.slice (some { block := base.heap.size + 1 + 1 + 1 + 1 + 1 + 1 + 1 + 1 + 1 + 1 + 1 + 1, off := 0 }) 1 1, Value.slice (some { block := base.heap.size + 1 + 1 + 1 + 1 + 1 + 1 + 1 + 1 + 1 + 1 + 1 + 1 + 1, off := 0 }) 1 1] 42)).alloc (Obj.cells #[Value.int IntKind.i32 1, Value.int IntKind.i32 2] 47)).alloc (Obj.cells #[Value.slice none 0 0, Value.slice (some { block := base.heap.size + 1 + 1 + 1 + 1 + 1 + 1 + 1 + 1 + 1 + 1 + 1 + 1 + 1 + 1 + 1, off := 0 }) 2 2, Value.slice (some { block := w.heap.size + 1 + 1, off := 0 }) 2 2, Value.slice (some { block := w.heap.size + 1 + 1 + 1, off := 0 }) 1 1] 42)).alloc (Obj.cells #[Value.slice none 0 0, Value.slice (some { block := base.heap.size, off := 0 }) 1 1, Value.slice (some { block := base.heap.size + 1, off := 0 }) 1 1, Value.slice (some { block := base.heap.size + 1 + 1, off := 0 }) 2 2, Value.slice (some { block := base.heap.size + 1 + 1 + 1, off := 0 }) 2 2, Value.slice (some { block := base.heap.size + 1 + 1 + 1 + 1, off := 0 }) 2 2, Value.slice (some { block := base.heap.size + 1 + 1 + 1 + 1 + 1, off := 0 }) 1 1, Value.slice (some { block := base.heap.size + 1 + 1 + 1 + 1 + 1 + 1 + 1, off := 0 }) 1 1, Value.slice (some { block := base.heap.size + 1 + 1 + 1 + 1 + 1 + 1 + 1 + 1 + 1, off := 0 }) 1 1, Value.slice (some { block := base.heap.size + 1 + 1 + 1 + 1 + 1 + 1 + 1 + 1 + 1 + 1 + 1, off := 0 }) 1 1, Value.slice (some { block := base.heap.size + 1 + 1 + 1 + 1 + 1 + 1 + 1 + 1 + 1 + 1 + 1 + 1 + 1 + 1, off := 0 }) 1 1, Value.slice (some { block := base.heap.size + 1 + 1 + 1 + 1 + 1 + 1 + 1 + 1 + 1 + 1 + 1 + 1 + 1 + 1 + 1 + 1, off := 0 }) 2 2] 24)) := ⟨_, rfl⟩
      rw [← hcW]
      have hcs : W6.heap.size = base.heap.size + 18 := by rw [hcW]; simp
      have HcB := Lib.hid (show Below base.heap.size base W6 by
        rw [hcW]
        exact ((((((((((((((((((Below.refl _ base).alloc (Nat.le_refl _) _).alloc (by simp) _).alloc (by simp; omega) _).alloc (by simp; omega) _).alloc (by simp; omega) _).alloc (by simp; omega) _).alloc (by simp; omega) _).alloc (by simp; omega) _).alloc (by simp; omega) _).alloc (by simp; omega) _).alloc (by simp; omega) _).alloc (by simp; omega) _).alloc (by simp; omega) _).alloc (by simp; omega) _).alloc (by simp; omega) _).alloc (by simp; omega) _).alloc (by simp; omega) _).alloc (by simp; omega) _)
      have HD := Lib.hid (show Below W.heap.size W W6 from below_then HB.out HcB.out HB.out.size)
      have HDS := Lib.hid HD.out.size
      have D0 := Lib.hid ((C0.out.below HD.out).up HDS.out)
      have D1 := Lib.hid ((C1.out.below HD.out).up HDS.out)
      have D2 := Lib.hid ((C2.out.below HD.out).up HDS.out)
      have D3 := Lib.hid ((C3.out.below HD.out).up HDS.out)
      obtain ⟨sts, hsts⟩ : ∃ sts : List SV, sts = [⟨none, 0, []⟩, ⟨some ⟨base.heap.size, 0, none⟩, 1, [⟨⟨some ⟨w.heap.size, 0, none⟩, 1, 1, [2]⟩, ⟨some ⟨w.heap.size + 1, 0, none⟩, 2, 2, [1, 2]⟩⟩]⟩, ⟨some ⟨base.heap.size + 1, 0, none⟩, 1, [⟨⟨some ⟨w.heap.size + 1 + 1, 0, none⟩, 2, 2, [1, -2]⟩, ⟨some ⟨w.heap.size + 1 + 1 + 1, 0, none⟩, 1, 1, [1]⟩⟩]⟩, ⟨some ⟨base.heap.size + 1 + 1, 0, none⟩, 2, [⟨⟨some ⟨w.heap.size, 0, none⟩, 1, 1, [2]⟩, ⟨some ⟨w.heap.size + 1, 0, none⟩, 2, 2, [1, 2]⟩⟩, ⟨⟨some ⟨w.heap.size + 1 + 1, 0, none⟩, 2, 2, [1, -2]⟩, ⟨some ⟨w.heap.size + 1 + 1 + 1, 0, none⟩, 1, 1, [1]⟩⟩]⟩, ⟨some ⟨base.heap.size + 1 + 1 + 1, 0, none⟩, 2, [⟨⟨some ⟨w.heap.size + 1 + 1, 0, none⟩, 2, 2, [1, -2]⟩, ⟨some ⟨w.heap.size + 1 + 1 + 1, 0, none⟩, 1, 1, [1]⟩⟩, ⟨⟨some ⟨w.heap.size, 0, none⟩, 1, 1, [2]⟩, ⟨some ⟨w.heap.size + 1, 0, none⟩, 2, 2, [1, 2]⟩⟩]⟩, ⟨some ⟨base.heap.size + 1 + 1 + 1 + 1, 0, none⟩, 2, [⟨⟨some ⟨w.heap.size, 0, none⟩, 1, 1, [2]⟩, ⟨some ⟨w.heap.size + 1, 0, none⟩, 2, 2, [1, 2]⟩⟩, ⟨⟨some ⟨w.heap.size, 0, none⟩, 1, 1, [2]⟩, ⟨some ⟨w.heap.size + 1, 0, none⟩, 2, 2, [1, 2]⟩⟩]⟩, ⟨some ⟨base.heap.size + 1 + 1 + 1 + 1 + 1, 0, none⟩, 1, [⟨⟨none, 0, 0, []⟩, ⟨none, 0, 0, []⟩⟩]⟩, ⟨some ⟨base.heap.size + 1 + 1 + 1 + 1 + 1 + 1 + 1, 0, none⟩, 1, [⟨⟨some ⟨base.heap.size + 1 + 1 + 1 + 1 + 1 + 1, 0, none⟩, 2, 2, [1, -1]⟩, ⟨none, 0, 0, []⟩⟩]⟩, ⟨some ⟨base.heap.size + 1 + 1 + 1 + 1 + 1 + 1 + 1 + 1 + 1, 0, none⟩, 1, [⟨⟨some ⟨base.heap.size + 1 + 1 + 1 + 1 + 1 + 1 + 1 + 1, 0, none⟩, 1, 1, [0]⟩, ⟨none, 0, 0, []⟩⟩]⟩, ⟨some ⟨base.heap.size + 1 + 1 + 1 + 1 + 1 + 1 + 1 + 1 + 1 + 1 + 1, 0, none⟩, 1, [⟨⟨none, 0, 0, []⟩, ⟨some ⟨base.heap.size + 1 + 1 + 1 + 1 + 1 + 1 + 1 + 1 + 1 + 1, 0, none⟩, 1, 1, [3]⟩⟩]⟩, ⟨some ⟨base.heap.size + 1 + 1 + 1 + 1 + 1 + 1 + 1 + 1 + 1 + 1 + 1 + 1 + 1 + 1, 0, none⟩, 1, [⟨⟨some ⟨base.heap.size + 1 + 1 + 1 + 1 + 1 + 1 + 1 + 1 + 1 + 1 + 1 + 1, 0, none⟩, 1, 1, [-2147483648]⟩, ⟨some ⟨base.heap.size + 1 + 1 + 1 + 1 + 1 + 1 + 1 + 1 + 1 + 1 + 1 + 1 + 1, 0, none⟩, 1, 1, [1]⟩⟩]⟩, ⟨some ⟨base.heap.size + 1 + 1 + 1 + 1 + 1 + 1 + 1 + 1 + 1 + 1 + 1 + 1 + 1 + 1 + 1 + 1, 0, none⟩, 2, [⟨⟨none, 0, 0, []⟩, ⟨some ⟨base.heap.size + 1 + 1 + 1 + 1 + 1 + 1 + 1 + 1 + 1 + 1 + 1 + 1 + 1 + 1 + 1, 0, none⟩, 2, 2, [1, 2]⟩⟩, ⟨⟨some ⟨w.heap.size + 1 + 1, 0, none⟩, 2, 2, [1, -2]⟩, ⟨some ⟨w.heap.size + 1 + 1 + 1, 0, none⟩, 1, 1, [1]⟩⟩]⟩] := ⟨_, rfl⟩
      have hsl : sts.length = 12 := by rw [hsts]; rfl
      have S0 := Lib.hid (show SOk W6.heap.size W6 ⟨none, 0, []⟩ from wt_nil)
      have S1 := Lib.hid (show SOk W6.heap.size W6 ⟨some ⟨base.heap.size, 0, none⟩, 1, [⟨⟨some ⟨w.heap.size, 0, none⟩, 1, 1, [2]⟩, ⟨some ⟨w.heap.size + 1, 0, none⟩, 2, 2, [1, 2]⟩⟩]⟩ from wt_blk (t := 42) (by rw [hcW]; repeat (first | exact blk_here (by simp) | refine Blk.alloc ?_ _)) (by omega) rfl (Nat.le_of_ble_eq_true rfl) (by intro z hz; rcases List.mem_cons.1 hz with rfl | hz; exact ⟨D0.out, D1.out⟩; cases hz))
      have S2 := Lib.hid (show SOk W6.heap.size W6 ⟨some ⟨base.heap.size + 1, 0, none⟩, 1, [⟨⟨some ⟨w.heap.size + 1 + 1, 0, none⟩, 2, 2, [1, -2]⟩, ⟨some ⟨w.heap.size + 1 + 1 + 1, 0, none⟩, 1, 1, [1]⟩⟩]⟩ from wt_blk (t := 42) (by rw [hcW]; repeat (first | exact blk_here (by simp) | refine Blk.alloc ?_ _)) (by omega) rfl (Nat.le_of_ble_eq_true rfl) (by intro z hz; rcases List.mem_cons.1 hz with rfl | hz; exact ⟨D2.out, D3.out⟩; cases hz))
      have S3 := Lib.hid (show SOk W6.heap.size W6 ⟨some ⟨base.heap.size + 1 + 1, 0, none⟩, 2, [⟨⟨some ⟨w.heap.size, 0, none⟩, 1, 1, [2]⟩, ⟨some ⟨w.heap.size + 1, 0, none⟩, 2, 2, [1, 2]⟩⟩, ⟨⟨some ⟨w.heap.size + 1 + 1, 0, none⟩, 2, 2, [1, -2]⟩, ⟨some ⟨w.heap.size + 1 + 1 + 1, 0, none⟩, 1, 1, [1]⟩⟩]⟩ from wt_blk (t := 42) (by rw [hcW]; repeat (first | exact blk_here (by simp) | refine Blk.alloc ?_ _)) (by omega) rfl (Nat.le_of_ble_eq_true rfl) (by intro z hz; rcases List.mem_cons.1 hz with rfl | hz; exact ⟨D0.out, D1.out⟩; rcases List.mem_cons.1 hz with rfl | hz; exact ⟨D2.out, D3.out⟩; cases hz))
      have S4 := Lib.hid (show SOk W6.heap.size W6 ⟨some ⟨base.heap.size + 1 + 1 + 1, 0, none⟩, 2, [⟨⟨some ⟨w.heap.size + 1 + 1, 0, none⟩, 2, 2, [1, -2]⟩, ⟨some ⟨w.heap.size + 1 + 1 + 1, 0, none⟩, 1, 1, [1]⟩⟩, ⟨⟨some ⟨w.heap.size, 0, none⟩, 1, 1, [2]⟩, ⟨some ⟨w.heap.size + 1, 0, none⟩, 2, 2, [1, 2]⟩⟩]⟩ from wt_blk (t := 42) (by rw [hcW]; repeat (first | exact blk_here (by simp) | refine Blk.alloc ?_ _)) (by omega) rfl (Nat.le_of_ble_eq_true rfl) (by intro z hz; rcases List.mem_cons.1 hz with rfl | hz; exact ⟨D2.out, D3.out⟩; rcases List.mem_cons.1 hz with rfl | hz; exact ⟨D0.out, D1.out⟩; cases hz))
      have S5 := Lib.hid (show SOk W6.heap.size W6 ⟨some ⟨base.heap.size + 1 + 1 + 1 + 1, 0, none⟩, 2, [⟨⟨some ⟨w.heap.size, 0, none⟩, 1, 1, [2]⟩, ⟨some ⟨w.heap.size + 1, 0, none⟩, 2, 2, [1, 2]⟩⟩, ⟨⟨some ⟨w.heap.size, 0, none⟩, 1, 1, [2]⟩, ⟨some ⟨w.heap.size + 1, 0, none⟩, 2, 2, [1, 2]⟩⟩]⟩ from wt_blk (t := 42) (by rw [hcW]; repeat (first | exact blk_here (by simp) | refine Blk.alloc ?_ _)) (by omega) rfl (Nat.le_of_ble_eq_true rfl) (by intro z hz; rcases List.mem_cons.1 hz with rfl | hz; exact ⟨D0.out, D1.out⟩; rcases List.mem_cons.1 hz with rfl | hz; exact ⟨D0.out, D1.out⟩; cases hz))
      have S6 := Lib.hid (show SOk W6.heap.size W6 ⟨some ⟨base.heap.size + 1 + 1 + 1 + 1 + 1, 0, none⟩, 1, [⟨⟨none, 0, 0, []⟩, ⟨none, 0, 0, []⟩⟩]⟩ from wt_blk (t := 42) (by rw [hcW]; repeat (first | exact blk_here (by simp) | refine Blk.alloc ?_ _)) (by omega) rfl (Nat.le_of_ble_eq_true rfl) (by intro z hz; rcases List.mem_cons.1 hz with rfl | hz; exact ⟨cl_nil, cl_nil⟩; cases hz))
      have S7 := Lib.hid (show SOk W6.heap.size W6 ⟨some ⟨base.heap.size + 1 + 1 + 1 + 1 + 1 + 1 + 1, 0, none⟩, 1, [⟨⟨some ⟨base.heap.size + 1 + 1 + 1 + 1 + 1 + 1, 0, none⟩, 2, 2, [1, -1]⟩, ⟨none, 0, 0, []⟩⟩]⟩ from wt_blk (t := 42) (by rw [hcW]; repeat (first | exact blk_here (by simp) | refine Blk.alloc ?_ _)) (by omega) rfl (Nat.le_of_ble_eq_true rfl) (by intro z hz; rcases List.mem_cons.1 hz with rfl | hz; exact ⟨(cl_blk (W := W6) (B := W6.heap.size) (g := base.heap.size + 1 + 1 + 1 + 1 + 1 + 1) (n := 2) (c := 2) (t := 47) (l := [1, -1]) (by rw [hcW]; repeat (first | exact blk_here (by simp) | refine Blk.alloc ?_ _)) (by omega) rfl (by decide) (by decide)), cl_nil⟩; cases hz))
      have S8 := Lib.hid (show SOk W6.heap.size W6 ⟨some ⟨base.heap.size + 1 + 1 + 1 + 1 + 1 + 1 + 1 + 1 + 1, 0, none⟩, 1, [⟨⟨some ⟨base.heap.size + 1 + 1 + 1 + 1 + 1 + 1 + 1 + 1, 0, none⟩, 1, 1, [0]⟩, ⟨none, 0, 0, []⟩⟩]⟩ from wt_blk (t := 42) (by rw [hcW]; repeat (first | exact blk_here (by simp) | refine Blk.alloc ?_ _)) (by omega) rfl (Nat.le_of_ble_eq_true rfl) (by intro z hz; rcases List.mem_cons.1 hz with rfl | hz; exact ⟨(cl_blk (W := W6) (B := W6.heap.size) (g := base.heap.size + 1 + 1 + 1 + 1 + 1 + 1 + 1 + 1) (n := 1) (c := 1) (t := 47) (l := [0]) (by rw [hcW]; repeat (first | exact blk_here (by simp) | refine Blk.alloc ?_ _)) (by omega) rfl (by decide) (by decide)), cl_nil⟩; cases hz))
      have S9 := Lib.hid (show SOk W6.heap.size W6 ⟨some ⟨base.heap.size + 1 + 1 + 1 + 1 + 1 + 1 + 1 + 1 + 1 + 1 + 1, 0, none⟩, 1, [⟨⟨none, 0, 0, []⟩, ⟨some ⟨base.heap.size + 1 + 1 + 1 + 1 + 1 + 1 + 1 + 1 + 1 + 1, 0, none⟩, 1, 1, [3]⟩⟩]⟩ from wt_blk (t := 42) (by rw [hcW]; repeat (first | exact blk_here (by simp) | refine Blk.alloc ?_ _)) (by omega) rfl (Nat.le_of_ble_eq_true rfl) (by intro z hz; rcases List.mem_cons.1 hz with rfl | hz; exact ⟨cl_nil, (cl_blk (W := W6) (B := W6.heap.size) (g := base.heap.size + 1 + 1 + 1 + 1 + 1 + 1 + 1 + 1 + 1 + 1) (n := 1) (c := 1) (t := 47) (l := [3]) (by rw [hcW]; repeat (first | exact blk_here (by simp) | refine Blk.alloc ?_ _)) (by omega) rfl (by decide) (by decide))⟩; cases hz))
      have S10 := Lib.hid (show SOk W6.heap.size W6 ⟨some ⟨base.heap.size + 1 + 1 + 1 + 1 + 1 + 1 + 1 + 1 + 1 + 1 + 1 + 1 + 1 + 1, 0, none⟩, 1, [⟨⟨some ⟨base.heap.size + 1 + 1 + 1 + 1 + 1 + 1 + 1 + 1 + 1 + 1 + 1 + 1, 0, none⟩, 1, 1, [-2147483648]⟩, ⟨some ⟨base.heap.size + 1 + 1 + 1 + 1 + 1 + 1 + 1 + 1 + 1 + 1 + 1 + 1 + 1, 0, none⟩, 1, 1, [1]⟩⟩]⟩ from wt_blk (t := 42) (by rw [hcW]; repeat (first | exact blk_here (by simp) | refine Blk.alloc ?_ _)) (by omega) rfl (Nat.le_of_ble_eq_true rfl) (by intro z hz; rcases List.mem_cons.1 hz with rfl | hz; exact ⟨(cl_blk (W := W6) (B := W6.heap.size) (g := base.heap.size + 1 + 1 + 1 + 1 + 1 + 1 + 1 + 1 + 1 + 1 + 1 + 1) (n := 1) (c := 1) (t := 47) (l := [-2147483648]) (by rw [hcW]; repeat (first | exact blk_here (by simp) | refine Blk.alloc ?_ _)) (by omega) rfl (by decide) (by decide)), (cl_blk (W := W6) (B := W6.heap.size) (g := base.heap.size + 1 + 1 + 1 + 1 + 1 + 1 + 1 + 1 + 1 + 1 + 1 + 1 + 1) (n := 1) (c := 1) (t := 47) (l := [1]) (by rw [hcW]; repeat (first | exact blk_here (by simp) | refine Blk.alloc ?_ _)) (by omega) rfl (by decide) (by decide))⟩; cases hz))
      have S11 := Lib.hid (show SOk W6.heap.size W6 ⟨some ⟨base.heap.size + 1 + 1 + 1 + 1 + 1 + 1 + 1 + 1 + 1 + 1 + 1 + 1 + 1 + 1 + 1 + 1, 0, none⟩, 2, [⟨⟨none, 0, 0, []⟩, ⟨some ⟨base.heap.size + 1 + 1 + 1 + 1 + 1 + 1 + 1 + 1 + 1 + 1 + 1 + 1 + 1 + 1 + 1, 0, none⟩, 2, 2, [1, 2]⟩⟩, ⟨⟨some ⟨w.heap.size + 1 + 1, 0, none⟩, 2, 2, [1, -2]⟩, ⟨some ⟨w.heap.size + 1 + 1 + 1, 0, none⟩, 1, 1, [1]⟩⟩]⟩ from wt_blk (t := 42) (by rw [hcW]; repeat (first | exact blk_here (by simp) | refine Blk.alloc ?_ _)) (by omega) rfl (Nat.le_of_ble_eq_true rfl) (by intro z hz; rcases List.mem_cons.1 hz with rfl | hz; exact ⟨cl_nil, (cl_blk (W := W6) (B := W6.heap.size) (g := base.heap.size + 1 + 1 + 1 + 1 + 1 + 1 + 1 + 1 + 1 + 1 + 1 + 1 + 1 + 1 + 1) (n := 2) (c := 2) (t := 47) (l := [1, 2]) (by rw [hcW]; repeat (first | exact blk_here (by simp) | refine Blk.alloc ?_ _)) (by omega) rfl (by decide) (by decide))⟩; rcases List.mem_cons.1 hz with rfl | hz; exact ⟨D2.out, D3.out⟩; cases hz))
      have HSS := Lib.hid (show ∀ x, x ∈ sts → SOk W6.heap.size W6 x by rw [hsts]; exact (by intro z hz; rcases List.mem_cons.1 hz with rfl | hz; exact S0.out; rcases List.mem_cons.1 hz with rfl | hz; exact S1.out; rcases List.mem_cons.1 hz with rfl | hz; exact S2.out; rcases List.mem_cons.1 hz with rfl | hz; exact S3.out; rcases List.mem_cons.1 hz with rfl | hz; exact S4.out; rcases List.mem_cons.1 hz with rfl | hz; exact S5.out; rcases List.mem_cons.1 hz with rfl | hz; exact S6.out; rcases List.mem_cons.1 hz with rfl | hz; exact S7.out; rcases List.mem_cons.1 hz with rfl | hz; exact S8.out; rcases List.mem_cons.1 hz with rfl | hz; exact S9.out; rcases List.mem_cons.1 hz with rfl | hz; exact S10.out; rcases List.mem_cons.1 hz with rfl | hz; exact S11.out; cases hz))
      have HST := Lib.hid (show Blk W6 (base.heap.size + 1 + 1 + 1 + 1 + 1 + 1 + 1 + 1 + 1 + 1 + 1 + 1 + 1 + 1 + 1 + 1 + 1) 24 (sts.map SV.v).toArray by rw [hsts]; exact (by rw [hcW]; repeat (first | exact blk_here (by simp) | refine Blk.alloc ?_ _)))
      have HSL := Lib.hid hsl
      have HM6 := Lib.hid (HMO.out.below (show Below W.heap.size base W6 from HcB.out.mono HB.out.size))
      clear hcW hcs hsl hsts na0 ma0 nb0 mb0 na1 ma1 nb1 mb1 na2 ma2 nb2 mb2 na3 ma3 nb3 mb3 na4 ma4 nb4 mb4 na5 ma5 nb5 mb5 na6 ma6 nb6 mb6 na7 ma7 nb7 mb7 na8 ma8 nb8 mb8 na9 ma9 nb9 mb9 na10 ma10 nb10 mb10 na11 ma11 nb11 mb11 na12 ma12 nb12 mb12 na13 ma13 nb13 mb13 na14 ma14 nb14 mb14 na15 ma15 nb15 mb15 na16 ma16 nb16 mb16 na17 ma17 nb17 mb17 S0 S1 S2 S3 S4 S5 S6 S7 S8 S9 S10 S11
      have HL5 := Lib.hid (show k + 1 ≤ 5 by omega)
      clear hlt hk
      go_loopw [58] (fun i wr2 => ∃ j : Nat, j ≤ 12 ∧ i = .int .i64 j ∧ Below W6.heap.size W6 wr2) (fun i _ => 12 - (intOf i).toNat)
      case atStart => exact ⟨0, Nat.zero_le _, rfl, Below.refl _ _⟩
      case round =>
        obtain ⟨j, hj, rfl, hb2⟩ := hrel
        have HB2 := Lib.hid hb2
        have HDB := Lib.hid (below_then HD.out hb2 HD.out.size)
        by_cases hlt2 : j < 12
        · have hjl : j < sts.length := by rw [HSL.out]; exact hlt2
          have HSO := Lib.hid ((HSS.out _ (List.getElem_mem hjl)).below hb2)
          have hc2 : wr.cell? ⟨base.heap.size + 1 + 1 + 1 + 1 + 1 + 1 + 1 + 1 + 1 + 1 + 1 + 1 + 1 + 1 + 1 + 1 + 1, j, none⟩ = some (sts[j]'hjl).v := by
            rw [(HST.out.below hb2).cell j]; simp [hjl]
          generalize sts[j]'hjl = y at *
          obtain ⟨sA, sn, st⟩ := y
          dsimp only [SV.v] at hc2
          have HPL := Lib.hid (plays_any (Nat.le_refl _) mA mn mn mm ((HM6.out.1.below (hb2.mono HDS.out)).up HDB.out.size) (fun h => HM6.out.2 h) sA sn sn st (WtOk.up HSO.out hb2.size))
          clear hjl hb2
          go_wp2_with fail
          refine HPL.out.mono ?_
          rintro e w7 ⟨rfl, hb7⟩
          have HB7 := Lib.hid (below_then HB2.out hb7 HB2.out.size)
          clear hb7
          go_wp2
          go_roundw
          case rel => exact ⟨j + 1, by omega, by go_num, HB7.out⟩
          case measure => simp [intOf]; omega
        · clear hb2
          go_wp2
          go_roundw
          case rel => exact ⟨k + 1, HL5.out, by go_num, HDB.out⟩
          case measure => have := HL5.out; simp [intOf]; omega
    · have HE := Lib.hid (below_then HaB.out hb HaB.out.size)
      clear hb a0 a1 b0 b1
      obtain ⟨base, hbase⟩ : ∃ base : World, base = wr := ⟨_, rfl⟩
      subst hbase
      go_wp2_with fail
      obtain ⟨W7, hdW⟩ : ∃ W7, W7 = ((((((((((((base.alloc (Obj.cells #[Value.int IntKind.i32 1, Value.int IntKind.i32 2] 47)).alloc (Obj.cells #[Value.int IntKind.i32 (-1), Value.int IntKind.i32 (-2)] 47)).alloc (Obj.cells #[Value.int IntKind.i32 3, Value.int IntKind.i32 1] 47)).alloc (Obj.cells #[Value.int IntKind.i32 (-3), Value.int IntKind.i32 2] 47)).alloc (Obj.cells #[Value.slice (some { block := base.heap.size, off := 0 }) 2 2, Value.slice (some { block := base.heap.size + 1, off := 0 }) 2 2, Value.slice (some { block := base.heap.size + 1 + 1, off := 0 }) 2 2, Value.slice (some { block := base.heap.size + 1 + 1 + 1, off := 0 }) 2 2] 40)).alloc (Obj.cells #[Value.int IntKind.i64 3, Value.slice (some { block := base.heap.size + 1 + 1 + 1 + 1, off := 0 }) 4 4] 34)).alloc (Obj.cells #[Value.int IntKind.i64 2, Value.int IntKind.i64 2, Value.int IntKind.i64 0, Value.int IntKind.i64 0] 3)).alloc (Obj.cells #[Value.int IntKind.i32 3] 47)).alloc (Obj.cells #[Value.int IntKind.i32 (-3)] 47)).alloc (Obj.cells #[Value.int IntKind.i32 1, Value.int IntKind.i32 (-2)] 47)).alloc (Obj.cells #[Value.int IntKind.i32 (-2)] 47)).alloc (Obj.cells #[Value.slice (some { block := base.heap.size + 1 + 1 + 1 + 1 + 1 + 1 + 1, off := 0 }) 1 1, Value.slice (some { block := base.heap.size + 1 + 1 + 1 + 1 + 1 + 1 + 1 + 1, off := 0 }) 1 1, Value.slice (some { block := base.heap.size + 1 + 1 + 1 + 1 + 1 + 1 + 1 + 1 + 1, off := 0 }) 2 2, Value.slice (some { block := base.heap.size + 1 + 1 + 1 + 1 + 1 + 1 + 1 + 1 + 1 + 1, off := 0 }) 1 1] 40)) := ⟨_, rfl⟩
      rw [← hdW]
      have hds : W7.heap.size = base.heap.size + 12 := by rw [hdW]; simp
      have HdB := Lib.hid (show Below base.heap.size base W7 by
        rw [hdW]
        exact ((((((((((((Below.refl _ base).alloc (Nat.le_refl _) _).alloc (by simp) _).alloc (by simp; omega) _).alloc (by simp; omega) _).alloc (by simp; omega) _).alloc (by simp; omega) _).alloc (by simp; omega) _).alloc (by simp; omega) _).alloc (by simp; omega) _).alloc (by simp; omega) _).alloc (by simp; omega) _).alloc (by simp; omega) _)
      have HF := Lib.hid (cls_blk (W := W7) (B := W7.heap.size) (g := base.heap.size + 1 + 1 + 1 + 1) (n := 4) (t := 40) (cs := [⟨some ⟨base.heap.size, 0, none⟩, 2, 2, [1, 2]⟩, ⟨some ⟨base.heap.size + 1, 0, none⟩, 2, 2, [-1, -2]⟩, ⟨some ⟨base.heap.size + 1 + 1, 0, none⟩, 2, 2, [3, 1]⟩, ⟨some ⟨base.heap.size + 1 + 1 + 1, 0, none⟩, 2, 2, [-3, 2]⟩]) (by rw [hdW]; repeat (first | exact blk_here (by simp) | refine Blk.alloc ?_ _)) (by omega) rfl (Nat.le_of_ble_eq_true rfl) (by intro z hz; rcases List.mem_cons.1 hz with rfl | hz; exact (cl_blk (W := W7) (B := W7.heap.size) (g := base.heap.size) (n := 2) (c := 2) (t := 47) (l := [1, 2]) (by rw [hdW]; repeat (first | exact blk_here (by simp) | refine Blk.alloc ?_ _)) (by omega) rfl (by decide) (by decide)); rcases List.mem_cons.1 hz with rfl | hz; exact (cl_blk (W := W7) (B := W7.heap.size) (g := base.heap.size + 1) (n := 2) (c := 2) (t := 47) (l := [-1, -2]) (by rw [hdW]; repeat (first | exact blk_here (by simp) | refine Blk.alloc ?_ _)) (by omega) rfl (by decide) (by decide)); rcases List.mem_cons.1 hz with rfl | hz; exact (cl_blk (W := W7) (B := W7.heap.size) (g := base.heap.size + 1 + 1) (n := 2) (c := 2) (t := 47) (l := [3, 1]) (by rw [hdW]; repeat (first | exact blk_here (by simp) | refine Blk.alloc ?_ _)) (by omega) rfl (by decide) (by decide)); rcases List.mem_cons.1 hz with rfl | hz; exact (cl_blk (W := W7) (B := W7.heap.size) (g := base.heap.size + 1 + 1 + 1) (n := 2) (c := 2) (t := 47) (l := [-3, 2]) (by rw [hdW]; repeat (first | exact blk_here (by simp) | refine Blk.alloc ?_ _)) (by omega) rfl (by decide) (by decide)); cases hz))
      have HL := Lib.hid (cls_blk (W := W7) (B := W7.heap.size) (g := base.heap.size + 1 + 1 + 1 + 1 + 1 + 1 + 1 + 1 + 1 + 1 + 1) (n := 4) (t := 40) (cs := [⟨some ⟨base.heap.size + 1 + 1 + 1 + 1 + 1 + 1 + 1, 0, none⟩, 1, 1, [3]⟩, ⟨some ⟨base.heap.size + 1 + 1 + 1 + 1 + 1 + 1 + 1 + 1, 0, none⟩, 1, 1, [-3]⟩, ⟨some ⟨base.heap.size + 1 + 1 + 1 + 1 + 1 + 1 + 1 + 1 + 1, 0, none⟩, 2, 2, [1, -2]⟩, ⟨some ⟨base.heap.size + 1 + 1 + 1 + 1 + 1 + 1 + 1 + 1 + 1 + 1, 0, none⟩, 1, 1, [-2]⟩]) (by rw [hdW]; repeat (first | exact blk_here (by simp) | refine Blk.alloc ?_ _)) (by omega) rfl (Nat.le_of_ble_eq_true rfl) (by intro z hz; rcases List.mem_cons.1 hz with rfl | hz; exact (cl_blk (W := W7) (B := W7.heap.size) (g := base.heap.size + 1 + 1 + 1 + 1 + 1 + 1 + 1) (n := 1) (c := 1) (t := 47) (l := [3]) (by rw [hdW]; repeat (first | exact blk_here (by simp) | refine Blk.alloc ?_ _)) (by omega) rfl (by decide) (by decide)); rcases List.mem_cons.1 hz with rfl | hz; exact (cl_blk (W := W7) (B := W7.heap.size) (g := base.heap.size + 1 + 1 + 1 + 1 + 1 + 1 + 1 + 1) (n := 1) (c := 1) (t := 47) (l := [-3]) (by rw [hdW]; repeat (first | exact blk_here (by simp) | refine Blk.alloc ?_ _)) (by omega) rfl (by decide) (by decide)); rcases List.mem_cons.1 hz with rfl | hz; exact (cl_blk (W := W7) (B := W7.heap.size) (g := base.heap.size + 1 + 1 + 1 + 1 + 1 + 1 + 1 + 1 + 1) (n := 2) (c := 2) (t := 47) (l := [1, -2]) (by rw [hdW]; repeat (first | exact blk_here (by simp) | refine Blk.alloc ?_ _)) (by omega) rfl (by decide) (by decide)); rcases List.mem_cons.1 hz with rfl | hz; exact (cl_blk (W := W7) (B := W7.heap.size) (g := base.heap.size + 1 + 1 + 1 + 1 + 1 + 1 + 1 + 1 + 1 + 1) (n := 1) (c := 1) (t := 47) (l := [-2]) (by rw [hdW]; repeat (first | exact blk_here (by simp) | refine Blk.alloc ?_ _)) (by omega) rfl (by decide) (by decide)); cases hz))
      have HK := Lib.hid (show Blk W7 (base.heap.size + 1 + 1 + 1 + 1 + 1) 34 #[Value.int IntKind.i64 3, Value.slice (some { block := base.heap.size + 1 + 1 + 1 + 1, off := 0 }) 4 4] from (by rw [hdW]; repeat (first | exact blk_here (by simp) | refine Blk.alloc ?_ _)))
      have HGL := Lib.hid (goodlaw_any (Nat.le_refl _) 3 _ 4 4 _ HF.out (fun h => by cases h) (some ⟨base.heap.size + 1 + 1 + 1 + 1 + 1 + 1, 0, none⟩) 4 4 [2, 2, 0, 0] ⟨rfl, by decide, rdb_blk (t := 3) (vs := [2, 2, 0, 0].map (Value.int .i64)) (by rw [hdW]; repeat (first | exact blk_here (by simp) | refine Blk.alloc ?_ _)) (by omega), by decide⟩ _ 4 4 _ HL.out)
      have HE7 := Lib.hid (below_then HE.out HdB.out HE.out.size)
      obtain ⟨fb, hfb⟩ : ∃ fb, fb = base.heap.size + 1 + 1 + 1 + 1 + 1 := ⟨_, rfl⟩
      obtain ⟨fc, hfc⟩ : ∃ fc, fc = base.heap.size + 1 + 1 + 1 + 1 := ⟨_, rfl⟩
      have HFB := Lib.hid (show fb < W7.heap.size by omega)
      clear hdW hds HL
      refine HGL.out.mono ?_
      rintro e w8 ⟨rfl, hb8⟩
      have HF8 := Lib.hid (HF.out.below hb8)
      have HK8 := Lib.hid (HK.out.below hb8)
      have HE8 := Lib.hid (below_then HE7.out hb8 HE7.out.size)
      have HZ8 := Lib.hid hb8.size
      clear hb8 HF HGL hfb hfc
      have f0 : w8.cell? ⟨base.heap.size + 1 + 1 + 1 + 1 + 1, 0, none⟩ = some (.int .i64 3) := HK8.out.cell 0
      have f1 : w8.cell? ⟨base.heap.size + 1 + 1 + 1 + 1 + 1, 1, none⟩ = some (Value.slice (some { block := base.heap.size + 1 + 1 + 1 + 1, off := 0 }) 4 4) := HK8.out.cell 1
      go_wp2_with fail
      clear f0 f1
      obtain ⟨W9, heW⟩ : ∃ W9, W9 = ((((((w8.alloc (Obj.cells #[Value.int IntKind.i64 0, Value.int IntKind.i64 0, Value.int IntKind.i64 0, Value.int IntKind.i64 0] 3)).alloc (Obj.cells #[Value.int IntKind.i32 1] 47)).alloc (Obj.cells #[Value.int IntKind.i32 (-1)] 47)).alloc (Obj.cells #[Value.int IntKind.i32 3] 47)).alloc (Obj.cells #[Value.int IntKind.i32 2, Value.int IntKind.i32 (-3)] 47)).alloc (Obj.cells #[Value.slice (some { block := w8.heap.size + 1, off := 0 }) 1 1, Value.slice (some { block := w8.heap.size + 1 + 1, off := 0 }) 1 1, Value.slice (some { block := w8.heap.size + 1 + 1 + 1, off := 0 }) 1 1, Value.slice (some { block := w8.heap.size + 1 + 1 + 1 + 1, off := 0 }) 2 2] 40)) := ⟨_, rfl⟩
      rw [← heW]
      have hes : W9.heap.size = w8.heap.size + 6 := by rw [heW]; simp
      have HeB := Lib.hid (show Below w8.heap.size w8 W9 by
        rw [heW]
        exact ((((((Below.refl _ w8).alloc (Nat.le_refl _) _).alloc (by simp) _).alloc (by simp; omega) _).alloc (by simp; omega) _).alloc (by simp; omega) _).alloc (by simp; omega) _)
      have HL := Lib.hid (cls_blk (W := W9) (B := W9.heap.size) (g := w8.heap.size + 1 + 1 + 1 + 1 + 1) (n := 4) (t := 40) (cs := [⟨some ⟨w8.heap.size + 1, 0, none⟩, 1, 1, [1]⟩, ⟨some ⟨w8.heap.size + 1 + 1, 0, none⟩, 1, 1, [-1]⟩, ⟨some ⟨w8.heap.size + 1 + 1 + 1, 0, none⟩, 1, 1, [3]⟩, ⟨some ⟨w8.heap.size + 1 + 1 + 1 + 1, 0, none⟩, 2, 2, [2, -3]⟩]) (by rw [heW]; repeat (first | exact blk_here (by simp) | refine Blk.alloc ?_ _)) (by omega) rfl (Nat.le_of_ble_eq_true rfl) (by intro z hz; rcases List.mem_cons.1 hz with rfl | hz; exact (cl_blk (W := W9) (B := W9.heap.size) (g := w8.heap.size + 1) (n := 1) (c := 1) (t := 47) (l := [1]) (by rw [heW]; repeat (first | exact blk_here (by simp) | refine Blk.alloc ?_ _)) (by omega) rfl (by decide) (by decide)); rcases List.mem_cons.1 hz with rfl | hz; exact (cl_blk (W := W9) (B := W9.heap.size) (g := w8.heap.size + 1 + 1) (n := 1) (c := 1) (t := 47) (l := [-1]) (by rw [heW]; repeat (first | exact blk_here (by simp) | refine Blk.alloc ?_ _)) (by omega) rfl (by decide) (by decide)); rcases List.mem_cons.1 hz with rfl | hz; exact (cl_blk (W := W9) (B := W9.heap.size) (g := w8.heap.size + 1 + 1 + 1) (n := 1) (c := 1) (t := 47) (l := [3]) (by rw [heW]; repeat (first | exact blk_here (by simp) | refine Blk.alloc ?_ _)) (by omega) rfl (by decide) (by decide)); rcases List.mem_cons.1 hz with rfl | hz; exact (cl_blk (W := W9) (B := W9.heap.size) (g := w8.heap.size + 1 + 1 + 1 + 1) (n := 2) (c := 2) (t := 47) (l := [2, -3]) (by rw [heW]; repeat (first | exact blk_here (by simp) | refine Blk.alloc ?_ _)) (by omega) rfl (by decide) (by decide)); cases hz))
      have HF9 := Lib.hid ((HF8.out.below (show Below W7.heap.size w8 W9 from HeB.out.mono HZ8.out)).up (Nat.le_trans HZ8.out HeB.out.size))
      have HGL := Lib.hid (goodlaw_any (Nat.le_refl _) 3 _ 4 4 _ HF9.out (fun h => by cases h) (some ⟨w8.heap.size, 0, none⟩) 4 4 [0, 0, 0, 0] ⟨rfl, by decide, rdb_blk (t := 3) (vs := [0, 0, 0, 0].map (Value.int .i64)) (by rw [heW]; repeat (first | exact blk_here (by simp) | refine Blk.alloc ?_ _)) (by omega), by decide⟩ _ 4 4 _ HL.out)
      have HE9 := Lib.hid (below_then HE8.out HeB.out HE8.out.size)
      clear heW hes HL HF9
      refine HGL.out.mono ?_
      rintro e w10 ⟨rfl, hb10⟩
      have HE10 := Lib.hid (below_then HE9.out hb10 HE9.out.size)
      have HWK := Lib.hid (works_any w10)
      clear hb10 HGL
      go_wp2_with fail
      refine HWK.out.mono ?_
      rintro e w11 ⟨rfl, hb11⟩
      have HE11 := Lib.hid (below_then HE10.out hb11 HE10.out.size)
      clear hb11
      go_wp2
      go_ret
      exact ⟨rfl, HE11.out⟩
end Go.Proofs.Ytfpohiflpemkjaa.Ex
