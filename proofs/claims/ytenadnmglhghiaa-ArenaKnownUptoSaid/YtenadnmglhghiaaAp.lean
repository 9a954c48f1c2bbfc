/- ArenaFinds: plain law: what lives, with where it begins; Pick, SameClause; rows of clauses. -/
import Derived.Test.YtenadnmglhghiaaAo
import Derived.Test.YtenadnmglhghiaaRdU
namespace Go.Proofs.Ytenadnmglhghiaa.Ar
open Go.RowKit Go.Proofs.Ytenadnmglhghiaa.Mem Go.Proofs.Ytenadnmglhghiaa.Sl Go.Shelf Go.Proofs.Ytenadnmglhghiaa.Cl
open Go.Proofs.Ytenadnmglhghiaa.FnL (enc_at below_then)
set_option linter.unusedVariables false

def lvA : Nat → List Itm → List (Nat × Itm)
  | _, [] => []
  | o, x :: t => if x.dead then lvA (o + x.wd) t else (o, x) :: lvA (o + x.wd) t
def lv (its : List Itm) : List (Nat × Itm) := lvA 0 its
theorem lvA_append : ∀ (a b : List Itm) (o : Nat), lvA o (a ++ b) = lvA o a ++ lvA (o + sumw a) b
  | [], b, o => by simp [lvA, sumw_nil]
  | x :: a, b, o => by
    rw [List.cons_append, lvA, lvA, lvA_append a b, sumw_cons, Nat.add_assoc]
    split <;> rfl
theorem lvA_refs : ∀ (a : List Itm) (o : Nat), (lvA o a).map Prod.fst = refsA o a
  | [], o => rfl
  | x :: a, o => by
    rw [lvA, refsA]
    split
    · exact lvA_refs a _
    · rw [List.map_cons, lvA_refs a]
theorem lv_refs (its : List Itm) : (lv its).map Prod.fst = refs its := lvA_refs its 0
theorem lv_len (its : List Itm) : (lv its).length = (refs its).length := by rw [← lv_refs, List.length_map]
theorem lv_snoc (a : List Itm) (x : Itm) : lv (a ++ [x]) = lv a ++ (if x.dead then [] else [(sumw a, x)]) := by
  unfold lv
  rw [lvA_append, Nat.zero_add]
  congr 1
theorem lv_split {its : List Itm} {i : Nat} (hi : i < its.length) (hd : (its[i]).dead = false) : lv its = lv (its.take i) ++ ((sumw (its.take i), its[i]) :: lvA (sumw (its.take i) + its[i].wd) (its.drop (i + 1))) := by
  have hs : its = its.take i ++ (its[i] :: its.drop (i + 1)) := by rw [← List.drop_eq_getElem_cons hi, List.take_append_drop]
  conv => lhs; rw [hs]
  unfold lv
  rw [lvA_append, Nat.zero_add, lvA, hd]
  rfl
theorem lv_mem {its : List Itm} {p : Nat × Itm} : p ∈ lv its → ∃ i, ∃ hi : i < its.length, p = (sumw (its.take i), its[i]) ∧ (its[i]).dead = false := by
  suffices h : ∀ (its : List Itm) (o : Nat), p ∈ lvA o its → ∃ i, ∃ hi : i < its.length, p = (o + sumw (its.take i), its[i]) ∧ (its[i]).dead = false by
    intro hp
    obtain ⟨i, hi, e, d⟩ := h its 0 hp
    exact ⟨i, hi, by rw [e, Nat.zero_add], d⟩
  intro its
  induction its with
  | nil => intro o h; cases h
  | cons x t ih =>
    intro o h
    have key : p ∈ lvA (o + x.wd) t → ∃ i, ∃ hi : i < (x :: t).length, p = (o + sumw ((x :: t).take i), (x :: t)[i]) ∧ ((x :: t)[i]).dead = false := fun hp => by
      obtain ⟨i, hi, e, d⟩ := ih _ hp
      exact ⟨i + 1, by simp; omega, by rw [e, List.take_succ_cons, sumw_cons, Nat.add_assoc]; rfl, d⟩
    rw [lvA] at h
    split at h
    · exact key h
    · rcases List.mem_cons.1 h with rfl | h
      · exact ⟨0, by simp, by simp [sumw_nil], by simpa using ‹¬ x.dead = true›⟩
      · exact key h
/-- What is told of a place that lives. -/
theorem lv_get {its : List Itm} (h : ∀ x, x ∈ its → IOk x) {p : Nat × Itm} (hp : p ∈ lv its) : get its (p.1 : Int) = p.2 ∧ (fnd its (p.1 : Int)).isSome = true ∧ IOk p.2 ∧ p.1 ≤ sumw its := by
  obtain ⟨i, hi, rfl, d⟩ := lv_mem hp
  have hf := fnd_of h hi d
  refine ⟨?_, ?_, h _ (List.getElem_mem hi), take_le h i⟩
  · show get its ((sumw (its.take i) : Nat) : Int) = its[i]
    unfold get; rw [hf]; simp [List.getElem?_eq_getElem hi]
  · show (fnd its ((sumw (its.take i) : Nat) : Int)).isSome = true
    rw [hf]; rfl
/-- One is killed. -/
theorem lv_kill {its : List Itm} (h : ∀ x, x ∈ its → IOk x) {k : Nat} (hk : k < (lv its).length) : (killM its ((lv its)[k].1 : Int)).1 = 0 ∧ lv (killM its ((lv its)[k].1 : Int)).2 = (lv its).eraseIdx k ∧ sumw (killM its ((lv its)[k].1 : Int)).2 = sumw its := by
  obtain ⟨i, hi, e, d⟩ := lv_mem (List.getElem_mem hk)
  rw [e]
  have hf := fnd_of h hi d
  have hg : get its ((sumw (its.take i) : Nat) : Int) = its[i] := by unfold get; rw [hf]; simp [List.getElem?_eq_getElem hi]
  have hkm : killM its ((sumw (its.take i) : Nat) : Int) = (0, its.set i its[i].kill) := by unfold killM; rw [hf, hg]
  rw [show ((sumw (its.take i), its[i]) : Nat × Itm).1 = sumw (its.take i) from rfl, hkm]
  refine ⟨rfl, ?_, sumw_set hi _ rfl⟩
  show lv (its.set i its[i].kill) = _
  have hs := lv_split hi d
  have hkl : k = (lv (its.take i)).length := by
    have hsrt := refs_sorted h
    rw [← lv_refs] at hsrt
    have h1 : ((lv its).map Prod.fst)[k]'(by rw [List.length_map]; exact hk) = sumw (its.take i) := by rw [List.getElem_map, e]
    have hl : (lv (its.take i)).length < (lv its).length := by rw [hs, List.length_append, List.length_cons]; omega
    have h2 : ((lv its).map Prod.fst)[(lv (its.take i)).length]'(by rw [List.length_map]; exact hl) = sumw (its.take i) := by
      rw [List.getElem_map]
      have : (lv its)[(lv (its.take i)).length]? = some (sumw (its.take i), its[i]) := by
        rw [hs, List.getElem?_append_right (Nat.le_refl _), Nat.sub_self]; rfl
      rw [List.getElem?_eq_getElem hl] at this
      rw [Option.some.inj this]
    have hnd : ((lv its).map Prod.fst).Nodup := hsrt.imp fun h => Nat.ne_of_lt h
    exact (List.getElem_inj hnd).1 (h1.trans h2.symm)
  rw [hs, hkl, List.eraseIdx_append_of_length_le (Nat.le_refl _), Nat.sub_self]
  have h3 : its.set i its[i].kill = its.take i ++ (its[i].kill :: its.drop (i + 1)) := List.set_eq_take_append_cons_drop .. |>.trans (if_pos hi)
  rw [h3]
  unfold lv
  rw [lvA_append, Nat.zero_add, lvA]
  rfl
/-- All is put together. -/
theorem lv_keep (its : List Itm) : (lv (keep its)).map Prod.snd = ((lv its).map Prod.snd).map Itm.tight := by
  suffices h : ∀ (its : List Itm) (o p : Nat), (lvA p (keep its)).map Prod.snd = ((lvA o its).map Prod.snd).map Itm.tight from h its 0 0
  intro its
  induction its with
  | nil => intro o p; rfl
  | cons x t ih =>
    intro o p
    rw [show keep (x :: t) = keep ([x] ++ t) from rfl, keep_append, keep_one, lvA]
    rcases hd : x.dead with _ | _
    · rw [if_neg (by decide), if_neg (by decide), List.singleton_append, lvA, show x.tight.dead = false from hd, if_neg (by decide), List.map_cons, List.map_cons, List.map_cons, ih (o + x.wd)]
    · rw [if_pos rfl, if_pos rfl, List.nil_append]
      exact ih _ _
theorem sum_live {its : List Itm} (h : ∀ x, x ∈ its → IOk x) : sumw its = waste its + ((lv its).map fun p => 4 + p.2.l.length).sum := by
  suffices hh : ∀ (its : List Itm) (o : Nat), (∀ x, x ∈ its → IOk x) → sumw its = waste its + ((lvA o its).map fun p => 4 + p.2.l.length).sum from hh its 0 h
  intro its
  induction its with
  | nil => intro o _; rfl
  | cons x t ih =>
    intro o hok
    have h1 := ih (o + x.wd) fun y hy => hok y (by simp [hy])
    have h2 := (hok x (by simp)).wd
    rw [sumw_cons, show x :: t = [x] ++ t from rfl, waste_append, waste_one, List.singleton_append, lvA]
    rcases hd : x.dead with _ | _
    · have e1 : wst x = x.wd - 4 - x.l.length := by unfold wst; rw [hd]; rfl
      rw [e1, if_neg (by decide), List.map_cons, List.sum_cons]
      show x.wd + sumw t = _ + (4 + x.l.length + _)
      omega
    · have e1 : wst x = x.wd := by unfold wst; rw [hd]; rfl
      rw [e1, if_pos rfl]
      omega
/-- The words of the first t that live. -/
def sumL (its : List Itm) (t : Nat) : Nat := (((lv its).take t).map fun p => 4 + p.2.l.length).sum
theorem sumL_next {its : List Itm} {t : Nat} (h : t < (lv its).length) : sumL its (t + 1) = sumL its t + (4 + (lv its)[t].2.l.length) := by
  unfold sumL
  rw [List.take_succ_eq_append_getElem h, List.map_append, List.sum_append]
  simp
theorem sumL_all {its : List Itm} (h : ∀ x, x ∈ its → IOk x) {t : Nat} (ht : (lv its).length ≤ t) : sumw its = waste its + sumL its t := by
  unfold sumL
  rw [List.take_of_length_le ht]
  exact sum_live h
/-- It is the clause that was put as number i. -/
def IsC (ls : List (List Int)) (x : Itm) (i : Nat) : Prop := ∃ h : i < ls.length, x.id = (i : Int) * 8589934592 + 1 ∧ x.l = ls[i] ∧ x.red = decide (i % 2 = 0)
/-- The arena holds these. -/
def FI (ls : List (List Int)) (its : List Itm) (ids : List Nat) : Prop := ids.length = (lv its).length ∧ ∀ k (h : k < (lv its).length) (h2 : k < ids.length), IsC ls (lv its)[k].2 ids[k]
theorem FI.put {ls : List (List Int)} {its : List Itm} {ids : List Nat} (h : FI ls its ids) {x : Itm} {i : Nat} (hd : x.dead = false) (hx : IsC ls x i) : FI ls (its ++ [x]) (ids ++ [i]) := by
  have hl : lv (its ++ [x]) = lv its ++ [(sumw its, x)] := by rw [lv_snoc, hd]; rfl
  refine ⟨by rw [hl, List.length_append, List.length_append, h.1]; rfl, fun k h1 h2 => ?_⟩
  have h1' : k < (lv its ++ [(sumw its, x)]).length := by rw [← hl]; exact h1
  have e : (lv (its ++ [x]))[k] = (lv its ++ [(sumw its, x)])[k] := by simp only [hl]
  rw [e]
  by_cases hk : k < (lv its).length
  · rw [List.getElem_append_left hk, List.getElem_append_left (by rw [h.1]; exact hk)]
    exact h.2 k hk _
  · have hk2 : k = (lv its).length := by rw [List.length_append] at h1'; simp at h1'; omega
    subst hk2
    rw [List.getElem_append_right (Nat.le_refl _), List.getElem_append_right (by rw [h.1]; exact Nat.le_refl _)]
    simpa using hx
theorem FI.kill {ls : List (List Int)} {its : List Itm} {ids : List Nat} (h : FI ls its ids) (hok : ∀ x, x ∈ its → IOk x) {k : Nat} (hk : k < (lv its).length) : FI ls (killM its ((lv its)[k].1 : Int)).2 (ids.eraseIdx k) := by
  obtain ⟨_, e, _⟩ := lv_kill hok hk
  refine ⟨by rw [e, List.length_eraseIdx, List.length_eraseIdx, h.1], fun j h1 h2 => ?_⟩
  have e2 : (lv (killM its ((lv its)[k].1 : Int)).2)[j] = ((lv its).eraseIdx k)[j]'(by rw [← e]; exact h1) := by simp only [e]
  rw [e2, List.getElem_eraseIdx, List.getElem_eraseIdx]
  split
  · exact h.2 j _ _
  · exact h.2 (j + 1) _ _
theorem FI.keep {ls : List (List Int)} {its : List Itm} {ids : List Nat} (h : FI ls its ids) : FI ls (keep its) ids := by
  have e := lv_keep its
  have hl : (lv (Ar.keep its)).length = (lv its).length := by have := congrArg List.length e; simpa using this
  refine ⟨by rw [hl]; exact h.1, fun j h1 h2 => ?_⟩
  have h3 : ((lv (Ar.keep its)).map Prod.snd)[j]'(by rw [List.length_map]; exact h1) = (((lv its).map Prod.snd).map Itm.tight)[j]'(by rw [List.length_map, List.length_map, ← hl]; exact h1) := by simp only [e]
  rw [List.getElem_map, List.getElem_map, List.getElem_map] at h3
  rw [h3]
  obtain ⟨k1, k2, k3, k4⟩ := h.2 j (by rw [← hl]; exact h1) h2
  exact ⟨k1, k2, k3, k4⟩
end Go.Proofs.Ytenadnmglhghiaa.Ar
