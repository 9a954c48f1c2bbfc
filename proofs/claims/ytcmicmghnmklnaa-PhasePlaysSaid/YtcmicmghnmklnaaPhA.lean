/- A store of phases in memory, and the walks of may, at, of, Decide; stores of at most 1000000 variables. -/
import Derived.Test.YtcmicmghnmklnaaPhR
import Derived.Lib.SliceRun
namespace Go.Proofs.Ytcmicmghnmklnaa.Ph
open Go.RowKit Go.Proofs.Ytcmicmghnmklnaa.Mem Go.Proofs.Ytcmicmghnmklnaa.Sl Go.Shelf
set_option linter.unusedVariables false

structure PV where
  sb : Nat
  scap : Nat
  saved : List Bool
  start : Bool
  tn : Int
  tA : Option Addr
  tl : Nat
  tv : List Int
  bn : Int
  bA : Option Addr
  bl : Nat
  bv : List Int
  state : Int
  turned : Int
def RowI (w : World) (B N : Nat) (A : Option Addr) (n : Nat) (l : List Int) : Prop :=
  (A = none ∧ n = 0 ∧ l = []) ∨ ∃ g, A = some ⟨g, 0, none⟩ ∧ n = N ∧ l.length = N ∧ B ≤ g ∧ Blk w g 67 (l.map (Value.int .i8)).toArray
def PhC (p : PV) : Array Value := #[.slice (some ⟨p.sb, 0, none⟩) p.saved.length p.scap, .bool p.start, .int .i64 p.tn, .slice p.tA p.tl p.tl, .int .i64 p.bn, .slice p.bA p.bl p.bl, .int .u64 p.state, .int .i64 p.turned]
structure Ph (w : World) (B g : Nat) (p : PV) : Prop where
  blk : Blk w g 62 (PhC p)
  row : Row w p.sb 4 (p.saved.map Value.bool) p.scap
  bg : B ≤ g
  bs : B ≤ p.sb
  t : RowI w B p.saved.length p.tA p.tl p.tv
  b : RowI w B p.saved.length p.bA p.bl p.bv
  len : p.saved.length ≤ 1000000
  st0 : 0 ≤ p.state
  st1 : p.state ≤ 18446744073709551615
  tu0 : 0 ≤ p.turned
  tn0 : 0 ≤ p.tn
  bn0 : 0 ≤ p.bn
theorem RowI.mod {S : Nat → Prop} {w w' : World} {B N : Nat} {A : Option Addr} {n : Nat} {l : List Int} (h : RowI w B N A n l) (hm : Mod S w w') (hS : ∀ g, A = some ⟨g, 0, none⟩ → ∀ cs, Blk w g 67 cs → ¬ S g) : RowI w' B N A n l := by
  rcases h with h | ⟨g, h1, h2, h3, h4, h5⟩
  · exact .inl h
  · exact .inr ⟨g, h1, h2, h3, h4, h5.mod hm (hS g h1 _ h5)⟩
/-- What turns other blocks leaves a store as it is. -/
theorem Ph.mod {S : Nat → Prop} {w w' : World} {B g : Nat} {p : PV} (h : Ph w B g p) (hm : Mod S w w') (h1 : ¬ S g) (h2 : ¬ S p.sb) (h3 : ∀ i cs, Blk w i 67 cs → ¬ S i) : Ph w' B g p :=
  ⟨h.blk.mod hm h1, h.row.mod hm h2, h.bg, h.bs, h.t.mod hm (fun g _ cs hc => h3 g cs hc), h.b.mod hm (fun g _ cs hc => h3 g cs hc), h.len, h.st0, h.st1, h.tu0, h.tn0, h.bn0⟩
theorem Ph.below {w w' : World} {B g : Nat} {p : PV} (h : Ph w B g p) (hb : Below w.heap.size w w') : Ph w' B g p :=
  h.mod (Mod.none_ hb (fun _ => False)) id id (fun _ _ _ => id)
theorem Ph.drewN {w : World} {B g : Nat} {p : PV} (h : Ph w B g p) (n : Nat) : Ph (w.drewN n) B g p := h.below (belowN (Below.refl _ _) n)
/-- What a call of a store may turn. -/
def Two (g sb : Nat) (i : Nat) : Prop := i = g ∨ i = sb
theorem row_cell {w : World} {B N : Nat} {A : Option Addr} {n : Nat} {l : List Int} (h : RowI w B N A n l) (i : Nat) (hi : i < N) : (A = none ∧ l.getD i 0 = 0) ∨ ∃ g, A = some ⟨g, 0, none⟩ ∧ n = N ∧ w.cell? ⟨g, i, none⟩ = some (.int .i8 (l.getD i 0)) := by
  rcases h with ⟨rfl, _, rfl⟩ | ⟨g, rfl, rfl, h3, h4, h5⟩
  · exact .inl ⟨rfl, by simp⟩
  · refine .inr ⟨g, rfl, rfl, ?_⟩
    rw [h5.cell i]
    simp [List.getD_eq_getElem?_getD, show i < l.length by omega]

def out (N x : Int) : Bool := x == 0 || (decide (N < x) || decide (x < -N))
theorem may1_any (x N : Int) (c : Nat) (w : World) (hN0 : 0 ≤ N) (hN1 : N ≤ 1000000) (hc : w.cell? ⟨c, 0, none⟩ = some (.int .i32 N)) :
    Calls Try.prog 42 #[.int .i32 x, .pointer (some ⟨c, 0, none⟩)] w fun e w' => e = .returned (.bool (out N x)) ∧ w = w' := by
  have HO := Lib.hid (show out N x = (x == 0 || (decide (N < x) || decide (x < -N))) from rfl)
  by_cases h0 : x = 0
  · subst h0
    go_enter Try.func42, Try.ntmps42
    go_wp2
    go_ret
    exact ⟨by rw [HO.out]; simp, rfl⟩
  · have t0 : (x == 0) = false := by simpa using h0
    clear h0
    by_cases h1 : N < x
    · have HE := Lib.hid (show out N x = true by rw [HO.out, t0, decide_eq_true h1]; rfl)
      go_enter Try.func42, Try.ntmps42
      go_wp2
      go_ret
      exact ⟨by rw [HE.out]; rfl, rfl⟩
    · have HE := Lib.hid (show out N x = decide (x < -N) by rw [HO.out, t0, decide_eq_false h1]; rfl)
      have hw : IntKind.i32.wrap (-N) = -N := IntWalk.i32_in _ (by omega)
      go_enter Try.func42, Try.ntmps42
      go_wp2
      go_ret
      exact ⟨by rw [HE.out]; rfl, rfl⟩
def mayB (N : Int) (l : List Int) : Bool := !(l.any (out N))
theorem may_any {w : World} {B g : Nat} {p : PV} (h : Ph w B g p) (a : Option Addr) (cap : Nat) (l : List Int) (n : Nat) (hn : n = l.length) (hm : n ≤ 140737488351232) (hr : RdV w a (l.map (Value.int .i32))) :
    Calls Try.prog 24 #[.pointer (some ⟨g, 0, none⟩), .slice a n cap] w fun e w' => e = .returned (.bool (mayB p.saved.length l)) ∧ Below w.heap.size w w' := by
  have c0 : w.cell? ⟨g, 0, none⟩ = some (.slice (some ⟨p.sb, 0, none⟩) p.saved.length p.scap) := h.blk.cell 0
  have hlen := h.len
  have HR := Lib.hid hr
  have HN := Lib.hid hn
  clear h hr hn
  generalize p.saved.length = N at *
  have e1 : IntKind.i32.wrap (N : Int) = N := IntWalk.i32_in _ (by omega)
  go_enter Try.func24, Try.ntmps24
  go_upto_region 2 with (fail)
  obtain ⟨W, hW⟩ : ∃ W, W = w.alloc (.cells #[.int .i32 (N : Int)] 35) := ⟨_, rfl⟩
  rw [← hW]
  have hcc := Lib.hid (show W.cell? ⟨w.heap.size, 0, none⟩ = some (.int .i32 (N : Int)) from hW ▸ (Blk.new w _ _).cell 0)
  have HB := Lib.hid (show Below w.heap.size w W from hW ▸ (Below.refl _ _).alloc (Nat.le_refl _) _)
  have hlt := Lib.hid (show w.heap.size < W.heap.size by rw [hW]; simp)
  clear hW e1 c0
  have HC := Lib.hid (containsFunc_lit a cap 42 #[.pointer (some ⟨w.heap.size, 0, none⟩)] (out N) l n HN.out hm W (HR.out.below HB.out)
    ⟨enters_of Try.func42 (by kernel_rfl) rfl, fun x _ W2 hb2 => (may1_any x N w.heap.size W2 (by omega) (by omega) ((hb2.cell (p := ⟨w.heap.size, 0, none⟩) hlt.out).trans hcc.out)).mono fun e w' ⟨he, hw⟩ => ⟨he, hw ▸ Below.refl _ _⟩⟩)
  go_wp2_with fail
  refine HC.out.mono ?_
  rintro e w1 ⟨rfl, hb1⟩
  have HB1 := Lib.hid (below_then HB.out hb1 HB.out.size)
  clear hb1
  go_wp2
  go_ret
  exact ⟨rfl, HB1.out⟩
theorem at_any {w : World} {B N : Nat} {A : Option Addr} {n : Nat} {l : List Int} (h : RowI w B N A n l) (rn : Int) (i : Nat) (hi : i < N) (hN : N ≤ 1000000) :
    Calls Try.prog 27 #[.agg #[.int .i64 rn, .slice A n n], .int .i64 i] w fun e w' => e = .returned (.int .i8 (l.getD i 0)) ∧ Below w.heap.size w w' := by
  rcases row_cell h i hi with ⟨rfl, he⟩ | ⟨g, rfl, rfl, hc⟩
  · have HE := Lib.hid he
    have he1 := fun (W : World) (A : Option Addr) (n c : Nat) => Lib.run_eql_slice_nil (P := Try.prog) W 58 67 A n c 0 0 Try.underlying58
    clear he h
    go_enter Try.func27, Try.ntmps27
    go_wp2
    go_ret
    exact ⟨by rw [HE.out]; rfl, (Below.refl _ _).alloc (Nat.le_refl _) _⟩
  · have hlt := World.block_lt_of_cell? w _ hc
    have he1 := fun (W : World) (A : Option Addr) (n c : Nat) => Lib.run_eql_slice_nil (P := Try.prog) W 58 67 A n c 0 0 Try.underlying58
    clear h
    go_enter Try.func27, Try.ntmps27
    go_wp2
    go_ret
    exact ⟨rfl, (Below.refl _ _).alloc (Nat.le_refl _) _⟩
def decV (p : PV) (v : Nat) : Bool := if p.tv.getD (v - 1) 0 = 0 then p.saved.getD (v - 1) false else decide (0 < p.tv.getD (v - 1) 0)
theorem decide_nil (v : Int) (w : World) :
    Calls Try.prog 12 #[.pointer none, .int .i64 v] w fun e w' => e = .returned (.tuple #[.bool false, .int .i64 1]) ∧ w = w' := by
  go_enter Try.func12, Try.ntmps12
  go_wp2
  go_ret2
  exact ⟨rfl, rfl⟩
theorem decide_bad {w : World} {B g : Nat} {p : PV} (h : Ph w B g p) (v : Int) (hv : v < 1 ∨ p.saved.length < v) :
    Calls Try.prog 12 #[.pointer (some ⟨g, 0, none⟩), .int .i64 v] w fun e w' => e = .returned (.tuple #[.bool false, .int .i64 2]) ∧ w = w' := by
  have c0 : w.cell? ⟨g, 0, none⟩ = some (.slice (some ⟨p.sb, 0, none⟩) p.saved.length p.scap) := h.blk.cell 0
  clear h
  generalize p.saved.length = N at *
  rcases hv with hv | hv
  · go_enter Try.func12, Try.ntmps12
    go_wp2
    go_ret2
    exact ⟨rfl, rfl⟩
  · have hv0 : ¬ v < 1 := by omega
    go_enter Try.func12, Try.ntmps12
    go_wp2
    go_ret2
    exact ⟨rfl, rfl⟩
theorem decide_ok {w : World} {B g : Nat} {p : PV} (h : Ph w B g p) (v : Nat) (hv0 : 1 ≤ v) (hv1 : v ≤ p.saved.length) :
    Calls Try.prog 12 #[.pointer (some ⟨g, 0, none⟩), .int .i64 v] w fun e w' => e = .returned (.tuple #[.bool (decV p v), .int .i64 0]) ∧ Below w.heap.size w w' := by
  have c0 : w.cell? ⟨g, 0, none⟩ = some (.slice (some ⟨p.sb, 0, none⟩) p.saved.length p.scap) := h.blk.cell 0
  have c2 : w.cell? ⟨g, 2, none⟩ = some (.int .i64 p.tn) := h.blk.cell 2
  have c3 : w.cell? ⟨g, 3, none⟩ = some (.slice p.tA p.tl p.tl) := h.blk.cell 3
  have cs : w.cell? ⟨p.sb, v - 1, none⟩ = some (.bool (p.saved.getD (v - 1) false)) := h.row.cell (bools_at (by omega))
  have hlen := h.len
  have hltg := h.blk.lt
  have hlts := h.row.lt
  have HA := Lib.hid (at_any (w := w) h.t p.tn (v - 1) (by omega) hlen)
  have HD := Lib.hid (show decV p v = if p.tv.getD (v - 1) 0 = 0 then p.saved.getD (v - 1) false else decide (0 < p.tv.getD (v - 1) 0) from rfl)
  obtain ⟨i, hi⟩ : ∃ i : Nat, v = i + 1 := ⟨v - 1, by omega⟩
  have e1 : v - 1 = i := by omega
  rw [e1] at cs HA HD
  have e2 : (v : Int) = (i : Int) + 1 := by omega
  rw [e2]
  have HI := Lib.hid hi
  clear h e1 e2 hi
  generalize p.saved.length = N at *
  generalize p.saved.getD i false = sb at *
  generalize p.tv.getD i 0 = tv at *
  generalize p.tA = A at *
  generalize p.tl = tl at *
  generalize p.sb = gs at *
  generalize p.scap = sc at *
  generalize decV p v = res at *
  have hiN : i < N := by have := HI.out; omega
  clear hv0 hv1
  have hi1 : (1 : Int) ≤ (i : Int) + 1 := by omega
  have hi2 : (i : Int) + 1 ≤ N := by omega
  have hi3 : i + 1 ≤ 1000000 := by omega
  go_enter Try.func12, Try.ntmps12
  go_wp2_with fail
  refine HA.out.mono ?_
  rintro e w1 ⟨rfl, hb1⟩
  have cs1 : w1.cell? ⟨gs, i, none⟩ = some (.bool sb) := (hb1.cell (p := ⟨gs, i, none⟩) hlts).trans cs
  have c01 : w1.cell? ⟨g, 0, none⟩ = some (.slice (some ⟨gs, 0, none⟩) N sc) := (hb1.cell (p := ⟨g, 0, none⟩) hltg).trans c0
  have HB1 := Lib.hid hb1
  clear hb1 c0 c2 c3 cs
  by_cases ht : tv = 0
  · have HR := Lib.hid (show res = sb by rw [HD.out, if_pos ht])
    subst ht
    go_wp2
    go_ret2
    exact ⟨by rw [HR.out]; rfl, HB1.out⟩
  · have HR := Lib.hid (show res = decide (0 < tv) by rw [HD.out, if_neg ht])
    have htb : (tv != 0) = true := by simpa using ht
    clear ht
    go_wp2
    go_ret2
    exact ⟨by rw [HR.out]; rfl, HB1.out⟩
end Go.Proofs.Ytcmicmghnmklnaa.Ph
