/- An arena as a list of clauses, dead ones too: plain words. No program in sight. -/
import Derived.Test.YtenadnmglhghiaaAppB
import Derived.Test.YtenadnmglhghiaaClN
namespace Go.Proofs.Ytenadnmglhghiaa.Ar
open Go.RowKit Go.Proofs.Ytenadnmglhghiaa.Mem Go.Proofs.Ytenadnmglhghiaa.Sl Go.Shelf
set_option linter.unusedVariables false

/-- A clause in the row: how many words it takes (its waste too), what it bears. -/
structure Itm where
  wd : Nat
  id : Int
  l : List Int
  red : Bool
  lbd : Int
  used : Int
  dead : Bool
structure IOk (x : Itm) : Prop where
  wd : 4 + x.l.length ≤ x.wd
  id : 1 ≤ x.id ∧ x.id ≤ 4611686018427387903
  l : ∀ y, y ∈ x.l → -2147483648 ≤ y ∧ y ≤ 2147483647
  lbd : 0 ≤ x.lbd ∧ x.lbd ≤ 65535
  used : 0 ≤ x.used ∧ x.used ≤ 65535
def u32 (y : Int) : Int := y % 4294967296
theorem u32_bd (y : Int) : 0 ≤ u32 y ∧ u32 y < 4294967296 := by unfold u32; omega
def hdI (x : Itm) : Int := 4 * (x.l.length : Int) + (if x.red then 2 else 0) + (if x.dead then 1 else 0)
/-- A clause's words. -/
def enc (x : Itm) : List Int := hdI x :: x.id % 4294967296 :: x.id / 4294967296 :: (x.lbd * 65536 + x.used) :: (x.l.map u32 ++ List.replicate (x.wd - 4 - x.l.length) 0)
theorem enc_len {x : Itm} (h : IOk x) : (enc x).length = x.wd := by
  have := h.wd
  simp [enc]; omega
def sumw (its : List Itm) : Nat := (its.map Itm.wd).sum
theorem sumw_nil : sumw [] = 0 := rfl
theorem sumw_cons (x : Itm) (t : List Itm) : sumw (x :: t) = x.wd + sumw t := by simp [sumw]
theorem sumw_append (a b : List Itm) : sumw (a ++ b) = sumw a + sumw b := by simp [sumw]
theorem sumw_one (x : Itm) : sumw [x] = x.wd := by simp [sumw]
/-- All words. -/
def flat (its : List Itm) : List Int := its.flatMap enc
theorem flat_append (a b : List Itm) : flat (a ++ b) = flat a ++ flat b := by simp [flat]
theorem flat_one (x : Itm) : flat [x] = enc x := by simp [flat]
theorem flat_len {its : List Itm} (h : ∀ x, x ∈ its → IOk x) : (flat its).length = sumw its := by
  induction its with
  | nil => rfl
  | cons x t ih =>
    rw [show x :: t = [x] ++ t from rfl, flat_append, flat_one, List.length_append, enc_len (h x (by simp)), ih fun y hy => h y (by simp [hy]), sumw_append, sumw_one]
theorem take_le {its : List Itm} (h : ∀ x, x ∈ its → IOk x) (i : Nat) : sumw (its.take i) ≤ sumw its := by
  have := sumw_append (its.take i) (its.drop i)
  rw [List.take_append_drop] at this
  omega
theorem take_next {its : List Itm} {i : Nat} (hi : i < its.length) : sumw (its.take (i + 1)) = sumw (its.take i) + its[i].wd := by
  rw [List.take_succ_eq_append_getElem hi, sumw_append, sumw_one]
theorem take_mono {its : List Itm} {i j : Nat} (h : i ≤ j) : sumw (its.take i) ≤ sumw (its.take j) := by
  have e : its.take i = (its.take j).take i := by rw [List.take_take, Nat.min_eq_left h]
  have := sumw_append ((its.take j).take i) ((its.take j).drop i)
  rw [List.take_append_drop, ← e] at this
  omega
theorem take_lt {its : List Itm} (h : ∀ x, x ∈ its → IOk x) {i j : Nat} (hij : i < j) (hj : i < its.length) : sumw (its.take i) < sumw (its.take j) := by
  have h1 := take_next hj
  have h2 := take_mono (its := its) (show i + 1 ≤ j from hij)
  have := (h its[i] (List.getElem_mem hj)).wd
  omega
theorem take_inj {its : List Itm} (h : ∀ x, x ∈ its → IOk x) {i j : Nat} (hi : i < its.length) (hj : j < its.length) (e : sumw (its.take i) = sumw (its.take j)) : i = j := by
  rcases Nat.lt_trichotomy i j with hl | hl | hl
  · have := take_lt h hl hi; omega
  · exact hl
  · have := take_lt h hl hj; omega
/-- Which of them begins at a place and lives. -/
def fnd (its : List Itm) (r : Int) : Option Nat := (List.range its.length).find? fun i => decide ((sumw (its.take i) : Int) = r) && !((its[i]?.map Itm.dead).getD true)
theorem fnd_some {its : List Itm} {r : Int} {i : Nat} (h : fnd its r = some i) : ∃ hi : i < its.length, (sumw (its.take i) : Int) = r ∧ (its[i]).dead = false := by
  have h1 := List.find?_some h
  have h2 := List.mem_range.1 (List.mem_of_find?_eq_some h)
  rw [Bool.and_eq_true, decide_eq_true_eq, List.getElem?_eq_getElem h2] at h1
  exact ⟨h2, h1.1, by simpa using h1.2⟩
theorem fnd_none {its : List Itm} {r : Int} (h : fnd its r = none) {i : Nat} (hi : i < its.length) (hd : (its[i]).dead = false) : (sumw (its.take i) : Int) ≠ r := fun e => by
  have := List.find?_eq_none.1 h i (List.mem_range.2 hi)
  rw [List.getElem?_eq_getElem hi] at this
  simp [e, hd] at this
theorem fnd_of {its : List Itm} (h : ∀ x, x ∈ its → IOk x) {i : Nat} (hi : i < its.length) (hd : (its[i]).dead = false) : fnd its (sumw (its.take i)) = some i := by
  rcases hf : fnd its (sumw (its.take i)) with _ | j
  · exact absurd rfl (fnd_none hf hi hd)
  · obtain ⟨hj, e, _⟩ := fnd_some hf
    exact congrArg some (take_inj h hj hi (by omega))
/-- Where those that live begin. -/
def refsA : Nat → List Itm → List Nat
  | _, [] => []
  | o, x :: t => if x.dead then refsA (o + x.wd) t else o :: refsA (o + x.wd) t
def refs (its : List Itm) : List Nat := refsA 0 its
theorem refsA_append : ∀ (a b : List Itm) (o : Nat), refsA o (a ++ b) = refsA o a ++ refsA (o + sumw a) b
  | [], b, o => by simp [refsA, sumw_nil]
  | x :: a, b, o => by
    rw [List.cons_append, refsA, refsA, refsA_append a b, sumw_cons, Nat.add_assoc]
    split <;> rfl
theorem refs_snoc (a : List Itm) (x : Itm) : refs (a ++ [x]) = refs a ++ (if x.dead then [] else [sumw a]) := by
  unfold refs
  rw [refsA_append, Nat.zero_add]
  congr 1
theorem mem_refs {its : List Itm} {r : Nat} : r ∈ refs its ↔ ∃ i, ∃ hi : i < its.length, sumw (its.take i) = r ∧ (its[i]).dead = false := by
  suffices h : ∀ (its : List Itm) (o : Nat), r ∈ refsA o its ↔ ∃ i, ∃ hi : i < its.length, o + sumw (its.take i) = r ∧ (its[i]).dead = false by
    have := h its 0
    simpa [refs] using this
  intro its
  induction its with
  | nil => intro o; simp [refsA]
  | cons x t ih =>
    intro o
    rw [refsA]
    have key : r ∈ refsA (o + x.wd) t ↔ ∃ i, ∃ hi : i + 1 < (x :: t).length, o + sumw ((x :: t).take (i + 1)) = r ∧ ((x :: t)[i + 1]).dead = false := by
      rw [ih]
      refine exists_congr fun i => ⟨fun ⟨hi, e, d⟩ => ⟨by simp; omega, by rw [List.take_succ_cons, sumw_cons]; omega, d⟩, fun ⟨hi, e, d⟩ => ⟨by simp at hi; omega, by rw [List.take_succ_cons, sumw_cons] at e; omega, d⟩⟩
    constructor
    · intro hr
      split at hr
      · obtain ⟨i, hi, e, d⟩ := key.1 hr; exact ⟨i + 1, hi, e, d⟩
      · rcases List.mem_cons.1 hr with rfl | hr
        · exact ⟨0, by simp, by simp [sumw_nil], by simpa using ‹¬ x.dead = true›⟩
        · obtain ⟨i, hi, e, d⟩ := key.1 hr; exact ⟨i + 1, hi, e, d⟩
    · rintro ⟨i, hi, e, d⟩
      rcases i with _ | i
      · have hx : x.dead = false := d
        rw [hx]
        simp [sumw_nil] at e
        simp [e]
      · have := key.2 ⟨i, hi, e, d⟩
        split
        · exact this
        · exact List.mem_cons_of_mem _ this
theorem refs_mem_find {its : List Itm} (h : ∀ x, x ∈ its → IOk x) {r : Nat} : r ∈ refs its ↔ ∃ i, fnd its (r : Int) = some i := by
  rw [mem_refs]
  constructor
  · rintro ⟨i, hi, rfl, d⟩; exact ⟨i, fnd_of h hi d⟩
  · rintro ⟨i, hf⟩
    obtain ⟨hi, e, d⟩ := fnd_some hf
    exact ⟨i, hi, by omega, d⟩
theorem refs_sorted {its : List Itm} (h : ∀ x, x ∈ its → IOk x) : (refs its).Pairwise (· < ·) := by
  suffices hh : ∀ (its : List Itm) (o : Nat), (∀ x, x ∈ its → IOk x) → (refsA o its).Pairwise (· < ·) ∧ ∀ r, r ∈ refsA o its → o ≤ r by exact (hh its 0 h).1
  intro its
  induction its with
  | nil => intro o _; exact ⟨List.Pairwise.nil, fun r hr => by cases hr⟩
  | cons x t ih =>
    intro o hok
    obtain ⟨h1, h2⟩ := ih (o + x.wd) fun y hy => hok y (by simp [hy])
    have hw := (hok x (by simp)).wd
    rw [refsA]
    split
    · exact ⟨h1, fun r hr => by have := h2 r hr; omega⟩
    · refine ⟨List.pairwise_cons.2 ⟨fun r hr => by have := h2 r hr; omega, h1⟩, fun r hr => ?_⟩
      rcases List.mem_cons.1 hr with rfl | hr
      · exact Nat.le_refl _
      · have := h2 r hr; omega
/-- Where the words of a clause lie among all. -/
theorem flat_split {its : List Itm} {i : Nat} (hi : i < its.length) : flat its = flat (its.take i) ++ (enc its[i] ++ flat (its.drop (i + 1))) := by
  conv => lhs; rw [← List.take_append_drop i its, List.drop_eq_getElem_cons hi]
  rw [flat_append, show its[i] :: its.drop (i + 1) = [its[i]] ++ its.drop (i + 1) from rfl, flat_append, flat_one]
theorem flat_at {its : List Itm} (h : ∀ x, x ∈ its → IOk x) {i : Nat} (hi : i < its.length) {j : Nat} (hj : j < its[i].wd) : (flat its)[sumw (its.take i) + j]? = (enc its[i])[j]? := by
  have hl := flat_len (its := its.take i) fun x hx => h x (List.mem_of_mem_take hx)
  have he := enc_len (h its[i] (List.getElem_mem hi))
  rw [flat_split hi, List.getElem?_append_right (by omega), hl, Nat.add_sub_cancel_left, List.getElem?_append_left (by omega)]
theorem flat_set {its : List Itm} (h : ∀ x, x ∈ its → IOk x) {i : Nat} (hi : i < its.length) (y : Itm) (hw : its[i].wd = y.wd) : flat (its.set i y) = flat (its.take i) ++ (enc y ++ flat (its.drop (i + 1))) := by
  have hi' : i < (its.set i y).length := by rw [List.length_set]; exact hi
  rw [flat_split hi', List.getElem_set_self, List.take_set_of_le (Nat.le_refl _), List.drop_set_of_lt (by omega)]
theorem sumw_set {its : List Itm} {i : Nat} (hi : i < its.length) (y : Itm) (hw : its[i].wd = y.wd) : sumw (its.set i y) = sumw its := by
  unfold sumw
  rw [List.map_set]
  congr 1
  have : (its.map Itm.wd)[i]'(by simpa using hi) = y.wd := by simpa using hw
  rw [← this, List.set_getElem_self]
theorem take_set_sumw {its : List Itm} {i : Nat} (hi : i < its.length) (y : Itm) (hw : its[i].wd = y.wd) (j : Nat) : sumw ((its.set i y).take j) = sumw (its.take j) := by
  unfold sumw
  rw [List.map_take, List.map_take, List.map_set]
  congr 2
  have : (its.map Itm.wd)[i]'(by simpa using hi) = y.wd := by simpa using hw
  rw [← this, List.set_getElem_self]
/-- A word of a clause is written. -/
theorem flat_put {its : List Itm} (h : ∀ x, x ∈ its → IOk x) {i : Nat} (hi : i < its.length) (y : Itm) (hw : its[i].wd = y.wd) {j : Nat} (hj : j < its[i].wd) (v : Int) (he : enc y = (enc its[i]).set j v) :
    flat (its.set i y) = (flat its).set (sumw (its.take i) + j) v := by
  have hl := flat_len (its := its.take i) fun x hx => h x (List.mem_of_mem_take hx)
  have hE := enc_len (h its[i] (List.getElem_mem hi))
  rw [flat_set h hi y hw, he, flat_split hi, List.set_append_right _ _ (by omega), hl, Nat.add_sub_cancel_left, List.set_append_left _ _ (by omega)]
theorem ok_set {its : List Itm} (h : ∀ x, x ∈ its → IOk x) {i : Nat} {y : Itm} (hy : IOk y) : ∀ x, x ∈ its.set i y → IOk x := fun x hx => by
  rcases List.mem_or_eq_of_mem_set hx with hx | rfl
  · exact h x hx
  · exact hy
theorem refs_set {its : List Itm} {i : Nat} (hi : i < its.length) (y : Itm) (hw : its[i].wd = y.wd) (hd : its[i].dead = y.dead) : refs (its.set i y) = refs its := by
  suffices hh : ∀ (its : List Itm) (i o : Nat) (hi : i < its.length), its[i].wd = y.wd → its[i].dead = y.dead → refsA o (its.set i y) = refsA o its from hh its i 0 hi hw hd
  intro its
  induction its with
  | nil => intro i o hi; cases hi
  | cons x t ih =>
    intro i o hi h1 h2
    rcases i with _ | i
    · have h1 : x.wd = y.wd := h1
      have h2 : x.dead = y.dead := h2
      rw [List.set_cons_zero, refsA, refsA, h1, h2]
    · rw [List.set_cons_succ, refsA, refsA, ih i _ (by simpa using hi) (by simpa using h1) (by simpa using h2)]
/-- Waste. -/
def wst (x : Itm) : Nat := if x.dead then x.wd else x.wd - 4 - x.l.length
def waste (its : List Itm) : Nat := (its.map wst).sum
theorem waste_append (a b : List Itm) : waste (a ++ b) = waste a + waste b := by simp [waste]
theorem waste_one (x : Itm) : waste [x] = wst x := by simp [waste]
theorem waste_set {its : List Itm} {i : Nat} (hi : i < its.length) (y : Itm) : waste (its.set i y) + wst its[i] = waste its + wst y := by
  have h1 : its.set i y = its.take i ++ (y :: its.drop (i + 1)) := List.set_eq_take_append_cons_drop .. |>.trans (if_pos hi)
  have h2 : its = its.take i ++ (its[i] :: its.drop (i + 1)) := by rw [← List.drop_eq_getElem_cons hi, List.take_append_drop]
  rw [h1, waste_append, show y :: its.drop (i + 1) = [y] ++ its.drop (i + 1) from rfl, waste_append, waste_one]
  conv => rhs; rw [h2, waste_append, show its[i] :: its.drop (i + 1) = [its[i]] ++ its.drop (i + 1) from rfl, waste_append, waste_one]
  omega
theorem waste_le {its : List Itm} (h : ∀ x, x ∈ its → IOk x) : waste its ≤ sumw its := by
  induction its with
  | nil => exact Nat.zero_le _
  | cons x t ih =>
    have := ih fun y hy => h y (by simp [hy])
    rw [show x :: t = [x] ++ t from rfl, waste_append, waste_one, sumw_append, sumw_one]
    unfold wst
    split <;> omega
end Go.Proofs.Ytenadnmglhghiaa.Ar
