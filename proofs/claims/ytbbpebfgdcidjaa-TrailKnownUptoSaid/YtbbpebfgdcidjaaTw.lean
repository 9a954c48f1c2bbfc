/- Trail: Back to whatever level; a row of its own beside a trail that is played on. Conditions: the bounds, the memory. -/
import Derived.Test.YtbbpebfgdcidjaaTu
namespace Go.Proofs.Ytbbpebfgdcidjaa.Ta
open Go.RowKit Go.Proofs.Ytbbpebfgdcidjaa.Mem Go.Proofs.Ytbbpebfgdcidjaa.Sl Go.Proofs.Ytbbpebfgdcidjaa.Cl Go.Proofs.Ytbbpebfgdcidjaa.App Go.Shelf
open Go.Proofs.Ytbbpebfgdcidjaa.FnL (enc_at below_then)
set_option linter.unusedVariables false

theorem back_any {base g : Nat} {m : TM} {q : TQ} {w : World} (h : TrS w base g m q) (ok : TOk m) (hst : ∀ n, n ∈ m.starts → n < m.lits.length) (lv : Int) :
    Calls Try.prog 17 #[.pointer (some ⟨g, 0, none⟩), .int .i64 lv] w fun e w' => BackR w base g m q lv e w' := by
  by_cases hn : lv < 0 ∨ (m.starts.length : Int) ≤ lv
  · exact back_no h lv hn
  · obtain ⟨n, rfl⟩ : ∃ n : Nat, lv = n := ⟨lv.toNat, by omega⟩
    exact back_yes h ok hst n (by omega)
/-- A row of its own, which the trail does not hold. -/
structure Kept (w : World) (g : Nat) (q : TQ) (t : TypeId) (A : Option Addr) (n c : Nat) (xs : List Value) : Prop where
  own : App.Own w 0 t A n c xs
  no : ∀ i, mine g q i → A ≠ some ⟨i, 0, none⟩
section
variable {w w' : World} {base g : Nat} {m : TM} {q q' : TQ} {t : TypeId} {A : Option Addr} {n c : Nat} {xs : List Value}
theorem Kept.below (h : Kept w g q t A n c xs) (hb : Below w.heap.size w w') : Kept w' g q t A n c xs := ⟨h.own.below hb, h.no⟩
theorem Kept.of (hs : TrS w base g m q) (h : App.Own w' w.heap.size t A n c xs) : Kept w' g q t A n c xs :=
  ⟨h.low (Nat.zero_le _), fun i hi e => by
    have h1 := (hs.minB hi).2
    obtain ⟨_, ⟨e1, _⟩ | ⟨j, e1, h2, _⟩⟩ := h
    · rw [e1] at e; cases e
    · rw [e1] at e; cases e; omega⟩
theorem Kept.step (h : Kept w g q t A n c xs) (s : TStep g q q' w w') : Kept w' g q' t A n c xs := by
  refine ⟨h.own.mod s.md (fun i _ e hi => h.no i hi e), fun i hi e => ?_⟩
  have hl : i < w.heap.size := by
    obtain ⟨_, ⟨e1, _⟩ | ⟨j, e1, _, _, h3⟩⟩ := h.own
    · rw [e1] at e; cases e
    · rw [e1] at e; cases e; exact h3.lt
  exact h.no i (s.kp i hl hi) e
end
theorem Own.here {w : World} {base n c : Nat} {t : TypeId} {A : Option Addr} {l : List Int} (h : App.Own w base t A n c (LI l)) {k : Nat} (hk : k < l.length) : ∃ b, A = some ⟨b, 0, none⟩ ∧ w.cell? ⟨b, k, none⟩ = some (.int .i32 l[k]) := by
  obtain ⟨hn, ⟨_, _, e3⟩ | ⟨b, e1, _, _, h3⟩⟩ := h
  · have : l.length = 0 := by
      have := congrArg List.length e3
      simpa [LI] using this
    omega
  · exact ⟨b, e1, h3.cell (by simp [LI, hk])⟩
end Go.Proofs.Ytbbpebfgdcidjaa.Ta
