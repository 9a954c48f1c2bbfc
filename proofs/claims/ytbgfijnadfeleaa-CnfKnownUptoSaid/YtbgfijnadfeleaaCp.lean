/- Plain laws of clauses in order: the sorted row without doubles is the same by sorting and by putting one in after the other; both signs of a variable. No condition. -/
import Derived.Test.YtbgfijnadfeleaaCo
import Derived.Shelf.SlSortCmp.Insertion
import Derived.Lib.SlicesCompact
namespace Go.Proofs.Ytbgfijnadfeleaa.Cp
open Go.Sort Go.Lib
open Go.Proofs.Ytbgfijnadfeleaa.Cl (varI)
open Go.Proofs.Ytbgfijnadfeleaa.Co (varW cf orI)
set_option linter.unusedVariables false

def ltL (x y : Int) : Bool := decide (varI x < varI y ∨ (varI x = varI y ∧ x < y))
def InR (l : List Int) : Prop := ∀ y, y ∈ l → -2147483648 ≤ y ∧ y ≤ 2147483647
def SS (l : List Int) : Prop := l.Pairwise fun x y => ltL x y = true
theorem ltL_irrefl (x : Int) : ltL x x = false := by simp [ltL]
theorem ltL_trans {x y z : Int} (h1 : ltL x y = true) (h2 : ltL y z = true) : ltL x z = true := by
  simp only [ltL, decide_eq_true_eq] at *; omega
theorem ltL_total {x y : Int} (h1 : ltL x y = false) (h2 : ltL y x = false) : x = y := by
  simp only [ltL, decide_eq_false_iff_not] at *; omega
theorem ltL_asymm {x y : Int} (h1 : ltL x y = true) : ltL y x = false := by
  simp only [ltL, decide_eq_true_eq, decide_eq_false_iff_not] at *; omega
theorem ltOf_cf (x y : Int) : ltOf cf x y = decide (varW x < varW y ∨ (varW x = varW y ∧ x < y)) := by
  unfold ltOf cf orI compareInt
  generalize varW x = a
  generalize varW y = b
  by_cases h1 : a < b
  · rw [if_pos h1]; simp [h1]
  · by_cases h2 : b < a
    · rw [if_neg h1, if_pos h2]; simp; omega
    · rw [if_neg h1, if_neg h2, if_pos rfl]
      by_cases h3 : x < y
      · rw [if_pos h3]; simp; omega
      · rw [if_neg h3]
        by_cases h4 : x > y
        · rw [if_pos h4]; simp; omega
        · rw [if_neg h4]; simp; omega
theorem swo : SWO (ltOf cf) where
  irrefl x := by rw [ltOf_cf]; simp
  trans x y z h1 h2 := by
    rw [ltOf_cf] at *; simp only [decide_eq_true_eq] at *; omega
  ntrans x y z h1 h2 := by
    rw [ltOf_cf] at *; simp only [decide_eq_false_iff_not] at *; omega
theorem total (x y : Int) (h1 : ltOf cf x y = false) (h2 : ltOf cf y x = false) : x = y := by
  rw [ltOf_cf] at *; simp only [decide_eq_false_iff_not] at *; omega
theorem varW_in {x : Int} (h0 : -2147483648 ≤ x) (h1 : x ≤ 2147483647) : varW x = varI x := by
  have e1 : IntKind.i64.wrap x = x := IntWalk.i64_in _ (by omega)
  have e2 : IntKind.i64.wrap (-x) = -x := IntWalk.i64_in _ (by omega)
  unfold varW varI
  rw [e1, e2]
theorem ltOf_in {x y : Int} (hx : -2147483648 ≤ x ∧ x ≤ 2147483647) (hy : -2147483648 ≤ y ∧ y ≤ 2147483647) : ltOf cf x y = ltL x y := by
  rw [ltOf_cf, varW_in hx.1 hx.2, varW_in hy.1 hy.2]; rfl

theorem ss_nodup {l : List Int} (h : SS l) : l.Nodup := List.Pairwise.imp (fun {a b} hab e => by subst e; rw [ltL_irrefl] at hab; cases hab) h
theorem ss_eq {a b : List Int} (ha : SS a) (hb : SS b) (hm : ∀ x, x ∈ a ↔ x ∈ b) : a = b := by
  refine List.Perm.eq_of_pairwise (le := fun x y => ltL x y = true) (fun x y _ _ h1 h2 => ?_) ha hb ((List.perm_ext_iff_of_nodup (ss_nodup ha) (ss_nodup hb)).2 hm)
  rw [ltL_asymm h1] at h2; cases h2
/-- The row in order, without doubles: one is put in after the other. -/
def ins (x : Int) (l : List Int) : List Int := l.takeWhile (fun y => ltL y x) ++ x :: l.dropWhile (fun y => ltL y x)
def putIn (out : List Int) (x : Int) : List Int := if out.contains x then out else ins x out
def normL (l : List Int) : List Int := l.foldl putIn []
def bothL (l : List Int) : Bool := l.any fun x => decide (0 < x) && l.contains (-x)
theorem mem_ins (x y : Int) (l : List Int) : y ∈ ins x l ↔ y = x ∨ y ∈ l := by
  unfold ins
  rw [List.mem_append, List.mem_cons]
  have h : y ∈ l ↔ y ∈ l.takeWhile (fun y => ltL y x) ∨ y ∈ l.dropWhile (fun y => ltL y x) := by
    rw [← List.mem_append, List.takeWhile_append_dropWhile]
  rw [h]
  constructor
  · rintro (h | h | h)
    · exact .inr (.inl h)
    · exact .inl h
    · exact .inr (.inr h)
  · rintro (h | h | h)
    · exact .inr (.inl h)
    · exact .inl h
    · exact .inr (.inr h)
theorem mem_takeWhile_p {p : Int → Bool} : ∀ {l : List Int} {y : Int}, y ∈ l.takeWhile p → p y = true
  | [], y, h => by simp at h
  | a :: l, y, h => by
    rw [List.takeWhile_cons] at h
    split at h
    · rename_i ha
      rcases List.mem_cons.1 h with rfl | h
      · exact ha
      · exact mem_takeWhile_p h
    · cases h
theorem ss_drop {x : Int} : ∀ {l : List Int}, SS l → x ∉ l → ∀ y, y ∈ l.dropWhile (fun y => ltL y x) → ltL x y = true
  | [], _, _, y, h => by simp at h
  | a :: l, hs, hx, y, h => by
    rw [List.dropWhile_cons] at h
    have hs' := List.pairwise_cons.1 hs
    split at h
    · exact ss_drop hs'.2 (fun h => hx (List.mem_cons_of_mem _ h)) y h
    · rename_i ha
      have hxa : ltL x a = true := by
        cases hh : ltL x a with
        | true => rfl
        | false => exact absurd (ltL_total hh (by simpa using ha)) (fun e => hx (e ▸ List.mem_cons_self))
      rcases List.mem_cons.1 h with rfl | h
      · exact hxa
      · exact ltL_trans hxa (hs'.1 y h)
theorem ss_ins {x : Int} {l : List Int} (hs : SS l) (hx : x ∉ l) : SS (ins x l) := by
  unfold ins SS
  have hs2 := hs
  unfold SS at hs2
  rw [← List.takeWhile_append_dropWhile (p := fun y => ltL y x) (l := l)] at hs2
  obtain ⟨h1, h2, h3⟩ := List.pairwise_append.1 hs2
  refine List.pairwise_append.2 ⟨h1, List.pairwise_cons.2 ⟨ss_drop hs hx, h2⟩, fun a ha b hb => ?_⟩
  rcases List.mem_cons.1 hb with rfl | hb
  · exact mem_takeWhile_p (p := fun y => ltL y b) ha
  · exact h3 a ha b hb
theorem mem_putIn (x y : Int) (l : List Int) : y ∈ putIn l x ↔ y = x ∨ y ∈ l := by
  unfold putIn
  split
  · rename_i h
    have h : x ∈ l := by simpa using h
    constructor
    · exact .inr
    · rintro (rfl | h2)
      · exact h
      · exact h2
  · exact mem_ins x y l
theorem ss_putIn {x : Int} {l : List Int} (hs : SS l) : SS (putIn l x) := by
  unfold putIn
  split
  · exact hs
  · rename_i h
    exact ss_ins hs (by simpa using h)
theorem fold_putIn : ∀ (l out : List Int), SS out → SS (l.foldl putIn out) ∧ ∀ y, y ∈ l.foldl putIn out ↔ y ∈ out ∨ y ∈ l
  | [], out, h => ⟨h, fun y => by simp⟩
  | x :: l, out, h => by
    obtain ⟨h1, h2⟩ := fold_putIn l (putIn out x) (ss_putIn h)
    refine ⟨h1, fun y => ?_⟩
    rw [List.foldl_cons, h2, mem_putIn, List.mem_cons]
    constructor
    · rintro ((h | h) | h)
      · exact .inr (.inl h)
      · exact .inl h
      · exact .inr (.inr h)
    · rintro (h | h | h)
      · exact .inl (.inr h)
      · exact .inl (.inl h)
      · exact .inr h
theorem ss_norm (l : List Int) : SS (normL l) := (fold_putIn l [] List.Pairwise.nil).1
theorem mem_norm (l : List Int) (y : Int) : y ∈ normL l ↔ y ∈ l := by
  have := (fold_putIn l [] List.Pairwise.nil).2 y
  simpa [normL] using this
theorem norm_eq {l d : List Int} (hs : SS d) (hm : ∀ x, x ∈ d ↔ x ∈ l) : d = normL l := ss_eq hs (ss_norm l) fun x => (hm x).trans (mem_norm l x).symm
theorem norm_in {l : List Int} (h : InR l) : InR (normL l) := fun y hy => h y ((mem_norm l y).1 hy)
theorem norm_len (l : List Int) : (normL l).length ≤ l.length := by
  suffices h : ∀ (l out : List Int), (l.foldl putIn out).length ≤ out.length + l.length by simpa [normL] using h l []
  intro l
  induction l with
  | nil => intro out; simp
  | cons x l ih =>
    intro out
    have h1 := ih (putIn out x)
    have h2 : (putIn out x).length ≤ out.length + 1 := by
      unfold putIn
      split
      · omega
      · unfold ins
        have := congrArg List.length (List.takeWhile_append_dropWhile (p := fun y => ltL y x) (l := out))
        rw [List.length_append] at this ⊢
        simp only [List.length_cons]
        omega
    rw [List.foldl_cons, List.length_cons]
    omega
/-- What slices.Compact leaves of a sorted row. -/
theorem mem_compact (d : List Int) (m : Nat) (hm : m ≤ d.length) (y : Int) : y ∈ compactUpTo d.toArray m ↔ y ∈ d.take m := by
  induction m with
  | zero => simp [compactUpTo]
  | succ m ih =>
    have hlt : m < d.length := by omega
    rw [compactUpTo_succ, List.mem_append, ih (by omega), List.take_succ_eq_append_getElem hlt, List.mem_append]
    have e : d.toArray[m]! = d[m] := by simp [getElem!_pos, hlt]
    by_cases hk : keeps d.toArray m = true
    · rw [if_pos hk, e]
    · rw [if_neg hk]
      unfold keeps at hk
      simp only [decide_eq_true_eq, not_or, Decidable.not_not] at hk
      obtain ⟨h0, h1⟩ := hk
      have hlt' : m - 1 < d.length := by omega
      have e' : d.toArray[m - 1]! = d[m - 1] := by simp [getElem!_pos, hlt']
      rw [e, e'] at h1
      constructor
      · rintro (h | h)
        · exact .inl h
        · cases h
      · rintro (h | h)
        · exact .inl h
        · left
          simp only [List.mem_cons, List.not_mem_nil, or_false] at h
          rw [h, h1]
          exact List.mem_take_iff_getElem.2 ⟨m - 1, by omega, rfl⟩
theorem ss_compact (d : List Int) (hd : d.Pairwise fun x y => ltL y x = false) (m : Nat) (hm : m ≤ d.length) : SS (compactUpTo d.toArray m) := by
  induction m with
  | zero => simp [compactUpTo, SS]
  | succ m ih =>
    have hlt : m < d.length := by omega
    have e : d.toArray[m]! = d[m] := by simp [getElem!_pos, hlt]
    rw [compactUpTo_succ]
    by_cases hk : keeps d.toArray m = true
    · rw [if_pos hk, e]
      refine List.pairwise_append.2 ⟨ih (by omega), List.pairwise_singleton _ _, fun a ha b hb => ?_⟩
      obtain rfl : b = d[m] := by simpa using hb
      obtain ⟨i, hi, rfl⟩ := List.mem_take_iff_getElem.1 ((mem_compact d m (by omega) a).1 ha)
      have him : i < m := by omega
      have hP := List.pairwise_iff_getElem.1 hd
      have h1 : ltL d[m] d[i] = false := hP i m (by omega) hlt him
      cases hh : ltL d[i] d[m] with
      | true => rfl
      | false =>
        exfalso
        unfold keeps at hk
        simp only [decide_eq_true_eq] at hk
        rcases hk with hk | hk
        · omega
        · have hlt' : m - 1 < d.length := by omega
          have e' : d.toArray[m - 1]! = d[m - 1] := by simp [getElem!_pos, hlt']
          rw [e, e'] at hk
          have hEq : d[m] = d[i] := ltL_total h1 hh
          apply hk
          rcases Nat.lt_or_ge i (m - 1) with h2 | h2
          · have h3 : ltL d[m] d[m - 1] = false := hP (m - 1) m hlt' hlt (by omega)
            have h4 : ltL d[m - 1] d[i] = false := hP i (m - 1) (by omega) hlt' h2
            rw [← hEq] at h4
            exact ltL_total h3 h4
          · obtain rfl : i = m - 1 := by omega
            exact hEq
    · rw [if_neg hk, List.append_nil]
      exact ih (by omega)
theorem sort_norm (l : List Int) (hl : InR l) : compactUpTo (l.mergeSort fun x y => !(ltOf cf) y x).toArray (l.mergeSort fun x y => !(ltOf cf) y x).length = normL l := by
  have hmem : ∀ y, y ∈ (l.mergeSort fun x y => !(ltOf cf) y x) ↔ y ∈ l := fun y => List.mem_mergeSort
  have hpw := List.pairwise_mergeSort (le := fun x y => !(ltOf cf) y x) (fun a b c h1 h2 => by
    simp only [Bool.not_eq_true'] at *; exact swo.ntrans _ _ _ h2 h1) (fun a b => by
    simp only [Bool.or_eq_true, Bool.not_eq_true']
    cases h : ltOf cf b a with
    | false => exact .inl rfl
    | true => exact .inr (by
        cases h2 : ltOf cf a b with
        | false => rfl
        | true => have := swo.trans _ _ _ h h2; rw [swo.irrefl] at this; cases this)) l
  generalize (l.mergeSort fun x y => !(ltOf cf) y x) = d at *
  refine norm_eq (ss_compact d ?_ d.length (Nat.le_refl _)) fun x => ?_
  · refine List.Pairwise.imp_of_mem (fun {a b} ha hb h => ?_) hpw
    rw [← ltOf_in (hl _ ((hmem b).1 hb)) (hl _ ((hmem a).1 ha))]
    simpa using h
  · rw [mem_compact d d.length (Nat.le_refl _), List.take_length]
    exact hmem x
end Go.Proofs.Ytbgfijnadfeleaa.Cp
