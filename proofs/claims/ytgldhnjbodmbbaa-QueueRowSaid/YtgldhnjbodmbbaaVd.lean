/- QueueRow: plain law: what is moved together keeps its order, and so does what stays. No program in sight. -/
import Derived.Test.YtgldhnjbodmbbaaVc
namespace Go.Proofs.Ytgldhnjbodmbbaa.Qu
open Go.RowKit Go.Proofs.Ytgldhnjbodmbbaa.Mem Go.Proofs.Ytgldhnjbodmbbaa.Sl Go.Shelf
set_option linter.unusedVariables false

theorem lt_of_split {L p q : List Nat} {a b : Nat} (h : L = p ++ a :: q) (nd : L.Nodup) (hb : b ∈ q) : L.idxOf a < L.idxOf b := by
  subst h
  obtain ⟨_, n2, n3⟩ := List.nodup_append.1 nd
  have hap : a ∉ p := fun e => n3 a e a (List.mem_cons_self ..) rfl
  have hbp : b ∉ p := fun e => n3 b e b (List.mem_cons_of_mem _ hb) rfl
  have hba : a ≠ b := fun e => (List.nodup_cons.1 n2).1 (by rw [e]; exact hb)
  rw [List.idxOf_append, if_neg hap, List.idxOf_append, if_neg hbp, List.idxOf_cons, List.idxOf_cons, beq_self_eq_true, (beq_eq_false_iff_ne.2 hba : (a == b) = false)]
  simp only [cond_true, cond_false]
  omega
theorem row_split {row : List Nat} {i : Nat} (h : i + 1 < row.length) : row = row.take i ++ row[i]'(by omega) :: row[i + 1] :: row.drop (i + 1 + 1) := by
  rw [← List.drop_eq_getElem_cons h, ← List.drop_eq_getElem_cons (by omega), List.take_append_drop]
/-- Neighbours alike, or b alone is moved: a stands before b afterwards. -/
theorem keeps_order {row : List Nat} {l : List Int} (nd : row.Nodup) {i : Nat} (h : i + 1 < row.length) (hc : l.contains ((row[i]'(by omega) : Nat) : Int) = l.contains ((row[i + 1] : Nat) : Int) ∨ (l.contains ((row[i + 1] : Nat) : Int) = true ∧ l.contains ((row[i]'(by omega) : Nat) : Int) = false)) :
    (mvRow row (mvL row l)).idxOf (row[i]'(by omega)) < (mvRow row (mvL row l)).idxOf row[i + 1] := by
  have hnd := mvRow_nodup nd (mvL_nodup (l := l) nd)
  have hs := row_split h
  generalize ha : row[i]'(by omega) = a at *
  generalize hb : row[i + 1] = b at *
  have e1 : stayL row l = stayL (row.take i) l ++ stayL (a :: b :: row.drop (i + 1 + 1)) l := by
    conv => lhs; rw [hs]
    unfold stayL; rw [List.filter_append]
  have e2 : mvL row l = mvL (row.take i) l ++ mvL (a :: b :: row.drop (i + 1 + 1)) l := by
    conv => lhs; rw [hs]
    unfold mvL; rw [List.filter_append]
  rw [← stay_is] at hnd ⊢
  rcases hx : l.contains (a : Int) with _ | _
  · have f1 : stayL (a :: b :: row.drop (i + 1 + 1)) l = a :: stayL (b :: row.drop (i + 1 + 1)) l := by
      unfold stayL; rw [List.filter_cons, if_pos (by rw [hx]; rfl)]
    rcases hy : l.contains (b : Int) with _ | _
    · refine lt_of_split (p := stayL (row.take i) l) (q := stayL (b :: row.drop (i + 1 + 1)) l ++ mvL row l) (by rw [e1, f1]; simp) hnd (List.mem_append_left _ ?_)
      unfold stayL
      exact List.mem_filter.2 ⟨List.mem_cons_self .., by rw [hy]; rfl⟩
    · refine lt_of_split (p := stayL (row.take i) l) (q := stayL (b :: row.drop (i + 1 + 1)) l ++ mvL row l) (by rw [e1, f1]; simp) hnd (List.mem_append_right _ ?_)
      rw [mvL_mem]
      exact ⟨by rw [← hb]; exact List.getElem_mem h, List.contains_iff_mem.1 hy⟩
  · rcases hc with hc | hc
    · have hy : l.contains (b : Int) = true := by rw [← hc]; exact hx
      have f1 : mvL (a :: b :: row.drop (i + 1 + 1)) l = a :: mvL (b :: row.drop (i + 1 + 1)) l := by
        unfold mvL; rw [List.filter_cons, if_pos hx]
      refine lt_of_split (p := stayL row l ++ mvL (row.take i) l) (q := mvL (b :: row.drop (i + 1 + 1)) l) (by rw [e2, f1]; simp) hnd ?_
      unfold mvL
      exact List.mem_filter.2 ⟨List.mem_cons_self .., hy⟩
    · rw [hx] at hc; exact absurd hc.2 (by decide)
/-- The places that are written down so far. -/
def plc (row : List Nat) (k : Nat) (v : Nat) : Int := if v ∈ row.take k then (row.idxOf v : Int) + 1 else 0
theorem plc_zero (row : List Nat) : plc row 0 = fun _ => 0 := by funext v; unfold plc; simp
theorem plc_fresh {row : List Nat} (nd : row.Nodup) {k : Nat} (h : k < row.length) : plc row k row[k] = 0 := by
  unfold plc
  rw [if_neg fun e => ?_]
  obtain ⟨i, hi, e2⟩ := List.mem_take_iff_getElem.1 e
  have := (List.getElem_inj nd).1 e2
  omega
theorem plc_next {row : List Nat} (nd : row.Nodup) {k : Nat} (h : k < row.length) : plc row (k + 1) = updI (plc row k) row[k] ((k : Int) + 1) := by
  funext v
  unfold plc updI
  rw [List.take_succ_eq_append_getElem h]
  by_cases e : v = row[k]
  · rw [if_pos e, if_pos (by rw [e]; exact List.mem_append_right _ (List.mem_singleton.2 rfl)), e, nd.idxOf_getElem]
  · rw [if_neg e]
    simp only [List.mem_append, List.mem_singleton, e, or_false]
theorem plc_all {row : List Nat} {v : Nat} (h : v ∈ row) : plc row row.length v = (row.idxOf v : Int) + 1 := by
  unfold plc; rw [List.take_length, if_pos h]
end Go.Proofs.Ytgldhnjbodmbbaa.Qu
