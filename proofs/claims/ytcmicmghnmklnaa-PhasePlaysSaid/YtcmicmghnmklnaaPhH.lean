/- The walk of PhaseTargets: what is reached, and what the variables are decided as. -/
import Derived.Test.YtcmicmghnmklnaaPhG
namespace Go.Proofs.Ytcmicmghnmklnaa.Ph
open Go.RowKit Go.Proofs.Ytcmicmghnmklnaa.Mem Go.Proofs.Ytcmicmghnmklnaa.Sl Go.Shelf Go.Proofs.Ytcmicmghnmklnaa.Ops
set_option linter.unusedVariables false

/-! ### The plain law -/
def wantS (v : Nat) (acc : Bool) (x : Int) : Bool := if x = v ∨ x = -(v : Int) then decide (0 < x) else acc
def want (v : Nat) (l : List Int) (k : Nat) : Bool := (l.take k).foldl (wantS v) false
theorem want_succ (v : Nat) (l : List Int) (k : Nat) (h : k < l.length) : want v l (k + 1) = wantS v (want v l k) (l.getD k 0) := by
  unfold want
  rw [List.take_succ_eq_append_getElem h, List.foldl_append]
  simp [List.getD_eq_getElem?_getD, h]
theorem put_getD {N : Nat} {r : List Int} (hr : r.length = N) {x : Int} (h0 : x ≠ 0) (h1 : x ≤ N) (h2 : -(N : Int) ≤ x) {v : Nat} (hv0 : 1 ≤ v) (hv1 : v ≤ N) :
    (put r x).getD (v - 1) 0 = if x = v ∨ x = -(v : Int) then (if 0 < x then 1 else -1) else r.getD (v - 1) 0 := by
  unfold put
  by_cases hp : 0 < x
  · rw [if_pos hp, if_pos hp]
    by_cases hx : x = v ∨ x = -(v : Int)
    · rw [if_pos hx]
      have e : x.toNat - 1 = v - 1 := by omega
      rw [e]
      simp [List.getD_eq_getElem?_getD, show v - 1 < r.length by omega]
    · rw [if_neg hx]
      have e : x.toNat - 1 ≠ v - 1 := by omega
      simp [List.getD_eq_getElem?_getD, e]
  · rw [if_neg hp, if_neg hp]
    by_cases hx : x = v ∨ x = -(v : Int)
    · rw [if_pos hx]
      have e : (-x).toNat - 1 = v - 1 := by omega
      rw [e]
      simp [List.getD_eq_getElem?_getD, show v - 1 < r.length by omega]
    · rw [if_neg hx]
      have e : (-x).toNat - 1 ≠ v - 1 := by omega
      simp [List.getD_eq_getElem?_getD, e]
theorem want_row {N : Nat} {l : List Int} (hf : Fits N l) {v : Nat} (hv0 : 1 ≤ v) (hv1 : v ≤ N) : ∀ k, k ≤ l.length → want v l k = decide (0 < (rowOf (l.take k) N).getD (v - 1) 0) := by
  intro k
  induction k with
  | zero => intro _; simp [want, rowOf, List.getD_eq_getElem?_getD, List.getElem?_replicate]; split <;> simp
  | succ k ih =>
    intro hk
    obtain ⟨f0, f1, f2⟩ := hf k (by omega)
    rw [want_succ v l k (by omega), rowOf_snoc l N k (by omega), put_getD (rowOf_len _ _) f0 f1 f2 hv0 hv1, ih (by omega)]
    unfold wantS
    by_cases hx : l.getD k 0 = v ∨ l.getD k 0 = -(v : Int)
    · rw [if_pos hx, if_pos hx]
      by_cases hp : 0 < l.getD k 0
      · rw [if_pos hp, decide_eq_true hp]; rfl
      · rw [if_neg hp, decide_eq_false hp]; rfl
    · rw [if_neg hx, if_neg hx]
/-- What the longest trail of all leaves of a store. -/
structure Tg (N : Nat) (m : PM) (l : List Int) : Prop where
  saved : m.saved = List.replicate N false
  tn : m.tn = l.length
  fits : Fits N l
  tv : ∀ j, m.tv.getD j 0 = (rowOf l N).getD j 0
theorem Tg.new (N : Nat) (sd : Int) : Tg N (newM N false sd) [] :=
  ⟨rfl, rfl, fun k hk => absurd hk (by simp), fun j => by simp [newM, rowOf, List.getD_eq_getElem?_getD, List.getElem?_replicate]; split <;> simp⟩
theorem bestM_same (m : PM) (l : List Int) : (bestM m l).saved = m.saved ∧ (bestM m l).tn = m.tn ∧ (bestM m l).tv = m.tv := by unfold bestM; split <;> exact ⟨rfl, rfl, rfl⟩
theorem Tg.no {N : Nat} {m : PM} {l t : List Int} (h : Tg N m l) (hm : mayB N t = false) : Tg N (reachM m t) l := by
  unfold reachM
  rw [h.saved, List.length_replicate, hm]
  exact h
theorem Tg.short {N : Nat} {m : PM} {l t : List Int} (h : Tg N m l) (hl : ¬ (l.length : Int) < t.length) : Tg N (reachM m t) l := by
  unfold reachM
  by_cases hm : mayB m.saved.length t = true
  · rw [if_pos hm]
    have e : targetM m t = m := by unfold targetM; rw [if_neg (by rw [h.tn]; exact hl)]
    rw [e]
    obtain ⟨b1, b2, b3⟩ := bestM_same m t
    exact ⟨b1.trans h.saved, b2.trans h.tn, h.fits, fun j => by rw [b3]; exact h.tv j⟩
  · rw [if_neg hm]; exact h
theorem Tg.long {N : Nat} {m : PM} {l t : List Int} (h : Tg N m l) (hm : mayB N t = true) (hl : (l.length : Int) < t.length) : Tg N (reachM m t) t := by
  unfold reachM
  rw [h.saved, List.length_replicate, if_pos hm]
  have e : targetM m t = { m with tn := t.length, tv := rowOf t m.saved.length } := by unfold targetM; rw [if_pos (by rw [h.tn]; exact hl)]
  rw [e]
  obtain ⟨b1, b2, b3⟩ := bestM_same { m with tn := t.length, tv := rowOf t m.saved.length } t
  exact ⟨b1.trans h.saved, b2, fits_of_may hm, fun j => by rw [b3]; simp [h.saved]⟩
theorem Tg.dec {N : Nat} {m : PM} {l : List Int} (h : Tg N m l) {v : Nat} (hv0 : 1 ≤ v) (hv1 : v ≤ N) : decM m v = want v l l.length := by
  rw [want_row h.fits hv0 hv1 _ (Nat.le_refl _), List.take_length]
  unfold decM
  rw [h.tv, h.saved]
  by_cases h0 : (rowOf l N).getD (v - 1) 0 = 0
  · rw [if_pos h0, h0]; simp [List.getD_eq_getElem?_getD, List.getElem?_replicate]; split <;> simp
  · rw [if_neg h0]
end Go.Proofs.Ytcmicmghnmklnaa.Ph
