/- Next of the trail and of the document's trail; the document's Value, Of. Conditions: the bounds, the memory. -/
import Derived.Test.YtbbpebfgdcidjaaUd
namespace Go.Proofs.Ytbbpebfgdcidjaa.Ta
open Go.RowKit Go.Proofs.Ytbbpebfgdcidjaa.Mem Go.Proofs.Ytbbpebfgdcidjaa.Sl Go.Proofs.Ytbbpebfgdcidjaa.Cl Go.Proofs.Ytbbpebfgdcidjaa.App Go.Shelf
open Go.Proofs.Ytbbpebfgdcidjaa.FnL (enc_at below_then)
set_option linter.unusedVariables false

def rnextD (d : DM) : DM := if d.row.length ≤ d.head then d else { d with head := d.head + 1 }
def rnextL (d : DM) : Int := if d.row.length ≤ d.head then 0 else (d.row.getD d.head (0, 0, 0)).1
def RNextR (w : World) (base g : Nat) (A : Option Addr) (c : Nat) (d : DM) (e : Ending) (w' : World) : Prop :=
  e = .returned (.tuple #[.int .i32 (rnextL d), .bool (decide (d.head < d.row.length))]) ∧ DrS w' base g (rnextD d) A c ∧ DStep g A A w w'
theorem rnext_any {base g c : Nat} {d : DM} {A : Option Addr} {w : World} (h : DrS w base g d A c) (ok : DOk d) : Calls Try.prog 42 #[.pointer (some ⟨g, 0, none⟩)] w fun e w' => RNextR w base g A c d e w' := by
  have c1 : w.cell? ⟨g, 1, none⟩ = some (.slice A d.row.length c) := h.blk.cell 1
  have c3 : w.cell? ⟨g, 3, none⟩ = some (.int .i64 (d.head : Int)) := h.blk.cell 3
  have f3 : w.frozen? ⟨g, 3, none⟩ = false := h.blk.frozen 3
  have hln := ok.ln
  have hhd := ok.hd
  by_cases p : d.row.length ≤ d.head
  · have HF := Lib.hid (fun (w' : World) (hb : Below w.heap.size w w') (e : Ending) (he : e = .returned (.tuple #[.int .i32 0, .bool false])) => (show RNextR w base g A c d e w' from by
      unfold RNextR rnextD rnextL
      rw [if_pos p, if_pos p, decide_eq_false (by omega)]
      exact ⟨he, h.below hb, DStep.of_below g A hb⟩))
    clear h ok
    have p' : ¬ d.head < d.row.length := by omega
    have hp : (d.row.length : Int) ≤ (d.head : Int) := by omega
    generalize d.head = k at *
    generalize d.row.length = L at *
    go_enter Try.func42, Try.ntmps42
    go_wp2_with fail
    go_quiet (fail)
    go_wp2
    go_ret2
    exact HF.out _ (belowN (Below.refl _ _) _) _ rfl
  · have hkl : d.head < d.row.length := by omega
    obtain ⟨b, ha, hbl, hc0, -, -⟩ := h.rows.at_ hkl
    have HF := Lib.hid (fun (k : Nat) (w' : World) (hw : w' = (w.drewN k).setCell ⟨g, 3, none⟩ (.int .i64 ((d.head + 1 : Nat) : Int))) (e : Ending) (he : e = .returned (.tuple #[.int .i32 d.row[d.head].1, .bool true])) => (show ∀ j, RNextR w base g A c d e (w'.drewN j) from fun j => by
      have hb := belowN (Below.refl w.heap.size w) k
      have hm : Mem.Mod (fun i => i = g) w w' := hw ▸ (((Mem.Mod.refl (fun i => i = g) w).drewN k).setCell (p := ⟨g, 3, none⟩) (.inl rfl) _)
      have hm2 := hm.drewN j
      unfold RNextR rnextD rnextL
      rw [if_neg p, if_neg p, decide_eq_true hkl, List.getD_eq_getElem?_getD, List.getElem?_eq_getElem hkl]
      refine ⟨he, ⟨?_, h.rows.mod hm2 (fun i _ e hi => h.rows.ne_blk h.blk (by decide) (by rw [e, hi])), h.bg⟩, hm2.mono fun i _ e => .inl e, fun _ _ h => h⟩
      have := (h.blk.drewN k).set_ 3 (.int .i64 ((d.head + 1 : Nat) : Int))
      rw [hw]
      exact this))
    have HW := Lib.hid (fun (k : Nat) => (show ((w.drewN k).setCell ⟨g, 3, none⟩ (.int .i64 ((d.head : Int) + 1))).cell? ⟨b, d.head * 3, none⟩ = some (.int .i32 d.row[d.head].1) from by
      rw [World.cell?_setCell_far _ _ _ _ (by
        intro e
        have e : g = b := e
        subst e
        exact h.rows.ne_blk h.blk (by decide) ha)]
      exact hc0))
    have HBL := Lib.hid h.blk
    rw [ha] at c1 HBL
    rw [ha] at HF ⊢
    clear h ok ha
    have p' : d.head < d.row.length := by omega
    have hp : ¬ (d.row.length : Int) ≤ (d.head : Int) := by omega
    have e1 : IntKind.i64.wrap ((d.head : Int) + 1) = (d.head : Int) + 1 := IntWalk.i64_in _ (by omega)
    have e2 : IntKind.i64.wrap ((d.head : Int) + 1 - 1) = (d.head : Int) := by rw [IntWalk.i64_in _ (by omega)]; omega
    generalize d.row[d.head].1 = x at *
    generalize d.head = k at *
    generalize d.row.length = L at *
    go_enter Try.func42, Try.ntmps42
    go_wp2_with fail
    go_quiet (fail)
    go_upto_region 4 with (fail)
    obtain ⟨W2, hW2⟩ : ∃ W2, W2 = (w.drewN nq).setCell ⟨g, 3, none⟩ (.int .i64 ((k : Int) + 1)) := ⟨_, rfl⟩
    rw [← hW2]
    have k1 : W2.cell? ⟨g, 1, none⟩ = some (.slice (some ⟨b, 0, none⟩) L c) := by rw [hW2]; exact ((HBL.out.drewN nq).set_ 3 _).cell 1
    have k3 : W2.cell? ⟨g, 3, none⟩ = some (.int .i64 ((k : Int) + 1)) := by rw [hW2]; exact ((HBL.out.drewN nq).set_ 3 _).cell 3
    have k0 : W2.cell? ⟨b, k * 3, none⟩ = some (.int .i32 x) := by rw [hW2]; exact HW.out nq
    have HF2 := Lib.hid (HF.out nq W2 hW2 _ rfl)
    clear hW2 c1 c3 f3 hc0 HW HF
    go_quiet (fail)
    go_wp2
    go_ret2
    exact HF2.out _
def nextM (m : TM) : TM := if m.lits.length ≤ m.head then m else { m with head := m.head + 1 }
def nextL (m : TM) : Int := if m.lits.length ≤ m.head then 0 else m.lits.getD m.head 0
def NextR (w : World) (base g : Nat) (m : TM) (q : TQ) (e : Ending) (w' : World) : Prop :=
  e = .returned (.tuple #[.int .i32 (nextL m), .bool (decide (m.head < m.lits.length))]) ∧ TrS w' base g (nextM m) q ∧ TStep g q q w w'
theorem next_any {base g : Nat} {m : TM} {q : TQ} {w : World} (h : TrS w base g m q) (ok : TOk m) : Calls Try.prog 23 #[.pointer (some ⟨g, 0, none⟩)] w fun e w' => NextR w base g m q e w' := by
  have c1 : w.cell? ⟨g, 0, none⟩ = some (.slice q.lA m.lits.length q.lc) := h.blk.cell 0
  have c3 : w.cell? ⟨g, 3, none⟩ = some (.int .i64 (m.head : Int)) := h.blk.cell 3
  have f3 : w.frozen? ⟨g, 3, none⟩ = false := h.blk.frozen 3
  have hln := ok.ln
  have hhd := ok.hd
  by_cases p : m.lits.length ≤ m.head
  · have HF := Lib.hid (fun (w' : World) (hb : Below w.heap.size w w') (e : Ending) (he : e = .returned (.tuple #[.int .i32 0, .bool false])) => (show NextR w base g m q e w' from by
      unfold NextR nextM nextL
      rw [if_pos p, if_pos p, decide_eq_false (by omega)]
      exact ⟨he, h.below hb, TStep.of_below g q hb⟩))
    clear h ok
    have p' : ¬ m.head < m.lits.length := by omega
    have hp : (m.lits.length : Int) ≤ (m.head : Int) := by omega
    generalize m.head = k at *
    generalize m.lits.length = L at *
    go_enter Try.func23, Try.ntmps23
    go_wp2_with fail
    go_quiet (fail)
    go_wp2
    go_ret2
    exact HF.out _ (belowN (Below.refl _ _) _) _ rfl
  · have hkl : m.head < m.lits.length := by omega
    obtain ⟨b, ha, hc0⟩ := Own.here h.lits hkl
    have hbl := World.block_lt_of_cell? w _ hc0
    have HF := Lib.hid (fun (k : Nat) (w' : World) (hw : w' = (w.drewN k).setCell ⟨g, 3, none⟩ (.int .i64 ((m.head + 1 : Nat) : Int))) (e : Ending) (he : e = .returned (.tuple #[.int .i32 m.lits[m.head], .bool true])) => (show ∀ j, NextR w base g m q e (w'.drewN j) from fun j => by
      have hb := belowN (Below.refl w.heap.size w) k
      have hm : Mem.Mod (fun i => i = g) w w' := hw ▸ (((Mem.Mod.refl (fun i => i = g) w).drewN k).setCell (p := ⟨g, 3, none⟩) (.inl rfl) _)
      have hm2 := hm.drewN j
      unfold NextR nextM nextL
      rw [if_neg p, if_neg p, decide_eq_true hkl, List.getD_eq_getElem?_getD, List.getElem?_eq_getElem hkl]
      refine ⟨he, ⟨?_, h.lits.mod hm2 (fun i _ e hi => h.nl.1 (by rw [e, hi])), h.starts.mod hm2 (fun i _ e hi => h.nt.1 (by rw [e, hi])), h.spots.mod hm2 (fun e => h.ng e.symm), h.bg, h.bs⟩, hm2.mono fun i _ e => .inl e, fun _ _ h => h⟩
      have := (h.blk.drewN k).set_ 3 (.int .i64 ((m.head + 1 : Nat) : Int))
      rw [hw]
      exact this))
    have HW := Lib.hid (fun (k : Nat) => (show ((w.drewN k).setCell ⟨g, 3, none⟩ (.int .i64 ((m.head : Int) + 1))).cell? ⟨b, m.head, none⟩ = some (.int .i32 m.lits[m.head]) from by
      rw [World.cell?_setCell_far _ _ _ _ (by
        intro e
        have e : g = b := e
        subst e
        exact h.nl.1 ha)]
      exact hc0))
    have HBL := Lib.hid h.blk
    rw [ha] at c1 HBL
    clear h ok
    have p' : m.head < m.lits.length := by omega
    have hp : ¬ (m.lits.length : Int) ≤ (m.head : Int) := by omega
    have e1 : IntKind.i64.wrap ((m.head : Int) + 1) = (m.head : Int) + 1 := IntWalk.i64_in _ (by omega)
    have e2 : IntKind.i64.wrap ((m.head : Int) + 1 - 1) = (m.head : Int) := by rw [IntWalk.i64_in _ (by omega)]; omega
    clear ha
    generalize m.lits[m.head] = x at *
    generalize m.head = k at *
    generalize m.lits.length = L at *
    go_enter Try.func23, Try.ntmps23
    go_wp2_with fail
    go_quiet (fail)
    go_upto_region 4 with (fail)
    obtain ⟨W2, hW2⟩ : ∃ W2, W2 = (w.drewN nq).setCell ⟨g, 3, none⟩ (.int .i64 ((k : Int) + 1)) := ⟨_, rfl⟩
    rw [← hW2]
    have k1 : W2.cell? ⟨g, 0, none⟩ = some (.slice (some ⟨b, 0, none⟩) L q.lc) := by rw [hW2]; exact ((HBL.out.drewN nq).set_ 3 _).cell 0
    have k3 : W2.cell? ⟨g, 3, none⟩ = some (.int .i64 ((k : Int) + 1)) := by rw [hW2]; exact ((HBL.out.drewN nq).set_ 3 _).cell 3
    have k0 : W2.cell? ⟨b, k, none⟩ = some (.int .i32 x) := by rw [hW2]; exact HW.out nq
    have HF2 := Lib.hid (HF.out nq W2 hW2 _ rfl)
    clear hW2 c1 c3 f3 hc0 HW HF
    go_quiet (fail)
    go_wp2
    go_ret2
    exact HF2.out _
end Go.Proofs.Ytbbpebfgdcidjaa.Ta
