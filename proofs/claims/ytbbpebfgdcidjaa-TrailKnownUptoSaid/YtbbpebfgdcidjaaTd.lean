/- Trail: Back: what it answers and leaves. Conditions: the bounds TOk, no empty level on top, the memory. -/
import Derived.Test.YtbbpebfgdcidjaaTc
namespace Go.Proofs.Ytbbpebfgdcidjaa.Ta
open Go.RowKit Go.Proofs.Ytbbpebfgdcidjaa.Mem Go.Proofs.Ytbbpebfgdcidjaa.Sl Go.Proofs.Ytbbpebfgdcidjaa.Cl Go.Proofs.Ytbbpebfgdcidjaa.App Go.Shelf
open Go.Proofs.Ytbbpebfgdcidjaa.FnL (enc_at below_then)
set_option linter.unusedVariables false
attribute [local go_sem] Oper.semAt_some

theorem back_nil (v : Int) (w : World) : Calls Try.prog 17 #[.pointer none, .int .i64 v] w fun e w' => e = .returned (.tuple #[.slice none 0 0, .int .i64 1]) ∧ Below w.heap.size w w' := by
  have HB := Lib.hid (show Below w.heap.size w (w.alloc (.cells #[.pointer none] 24)) from (Below.refl _ _).alloc (Nat.le_refl _) _)
  refine (callsIn_wide (n := 6)).1 ?_
  refine callsIn_of_wp_marks Try.func17 rfl trivial ?_ rfl
  refine wpIn_wide.2 ?_
  simp only [Try.ntmps17, List.size_toArray, List.length_cons, List.length_nil, Nat.reduceAdd, Nat.reduceSub, Array.replicate_succ, Array.replicate_zero, List.push_toArray, List.append_toArray, List.nil_append, List.cons_append]
  go_wp2
  exact ⟨_, results_tmp2 rfl _ _ _, rfl, HB.out⟩
def backS (m : TM) (lv : Nat) : TM := { m with lits := m.lits.take (m.starts.getD lv 0), sp := clr m.sp (m.lits.drop (m.starts.getD lv 0)).reverse, starts := m.starts.take lv, head := min m.head (m.starts.getD lv 0) }
def backM (m : TM) (lv : Int) : TM := if 0 ≤ lv ∧ lv < m.starts.length then backS m lv.toNat else m
def goneM (m : TM) (lv : Int) : List Int := if 0 ≤ lv ∧ lv < m.starts.length then (m.lits.drop (m.starts.getD lv.toNat 0)).reverse else []
def backE (m : TM) (lv : Int) : Int := if lv < 0 ∨ (m.starts.length : Int) < lv then 101 else 0
def BackR (w : World) (base g : Nat) (m : TM) (q : TQ) (lv : Int) (e : Ending) (w' : World) : Prop :=
  ∃ A c, e = .returned (.tuple #[.slice A (goneM m lv).length c, .int .i64 (backE m lv)]) ∧ App.Own w' w.heap.size 30 A (goneM m lv).length c (LI (goneM m lv)) ∧ TrS w' base g (backM m lv) q ∧ TStep g q q w w'
theorem Own.take {w : World} {base n c k : Nat} {t : TypeId} {A : Option Addr} {xs : List Value} (h : App.Own w base t A n c xs) (hk : k ≤ n) : App.Own w base t A k c (xs.take k) := by
  obtain ⟨hn, ⟨h1, h2, h3⟩ | ⟨g, h1, h2, h3, r, h4, h5⟩⟩ := h
  · subst h3
    simp at hn
    exact ⟨by simp; omega, .inl ⟨h1, h2, by simp⟩⟩
  · refine ⟨by simp; omega, .inr ⟨g, h1, h2, h3, xs.drop k ++ r, ?_, by simp; omega⟩⟩
    rw [← List.append_assoc, List.take_append_drop]; exact h4
theorem back_no {base g : Nat} {m : TM} {q : TQ} {w : World} (h : TrS w base g m q) (lv : Int) (hlv : lv < 0 ∨ (m.starts.length : Int) ≤ lv) :
    Calls Try.prog 17 #[.pointer (some ⟨g, 0, none⟩), .int .i64 lv] w fun e w' => BackR w base g m q lv e w' := by
  have hno : ¬ (0 ≤ lv ∧ lv < m.starts.length) := by omega
  have HBR := Lib.hid (fun (e : Ending) (w' : World) (hb : Below w.heap.size w w') (he : e = .returned (.tuple #[.slice none 0 0, .int .i64 (backE m lv)])) => (show BackR w base g m q lv e w' from by
    unfold BackR goneM backM
    rw [if_neg hno, if_neg hno]
    exact ⟨none, 0, he, App.Own.nil _ _ _, h.below hb, TStep.of_below g q hb⟩))
  have HE := Lib.hid (show backE m lv = if lv < 0 ∨ (m.starts.length : Int) < lv then 101 else 0 from rfl)
  obtain ⟨W0, hW0⟩ : ∃ W0, W0 = w.alloc (.cells #[.pointer (some ⟨g, 0, none⟩)] 24) := ⟨_, rfl⟩
  have HB := Lib.hid (show Below w.heap.size w W0 from hW0 ▸ (Below.refl _ _).alloc (Nat.le_refl _) _)
  have HK := Lib.hid (show W0.cell? ⟨w.heap.size, 0, none⟩ = some (.pointer (some ⟨g, 0, none⟩)) by rw [hW0]; simp)
  have HQ := Lib.hid (show W0.cell? ⟨g, 2, none⟩ = some (.slice q.tA m.starts.length q.tc) from (h.below HB.out).blk.cell 2)
  have HW0 := Lib.hid hW0
  clear h hno hW0
  generalize m.starts.length = sn at *
  refine (callsIn_wide (n := 6)).1 ?_
  refine callsIn_of_wp_marks Try.func17 rfl trivial ?_ rfl
  refine wpIn_wide.2 ?_
  simp only [Try.ntmps17, List.size_toArray, List.length_cons, List.length_nil, Nat.reduceAdd, Nat.reduceSub, Array.replicate_succ, Array.replicate_zero, List.push_toArray, List.append_toArray, List.nil_append, List.cons_append]
  go_upto_region 1 with (fail)
  rw [← HW0.out]
  have k0 := HK.out
  have k1 := HQ.out
  by_cases p1 : lv < 0
  · have HR := Lib.hid (HE.out.trans (if_pos (.inl p1)))
    clear hlv
    go_wp2
    exact ⟨_, results_tmp2 rfl _ _ _, HBR.out _ _ HB.out (by rw [HR.out]; rfl)⟩
  · by_cases p2 : (sn : Int) < lv
    · have HR := Lib.hid (HE.out.trans (if_pos (.inr p2)))
      clear hlv
      go_wp2
      exact ⟨_, results_tmp2 rfl _ _ _, HBR.out _ _ HB.out (by rw [HR.out]; rfl)⟩
    · have HR := Lib.hid (HE.out.trans (if_neg (by omega)))
      have hl2 : lv = (sn : Int) := by omega
      subst hl2
      clear hlv p1 p2
      go_wp2
      exact ⟨_, results_tmp2 rfl _ _ _, HBR.out _ _ HB.out (by rw [HR.out]; rfl)⟩
end Go.Proofs.Ytbbpebfgdcidjaa.Ta
