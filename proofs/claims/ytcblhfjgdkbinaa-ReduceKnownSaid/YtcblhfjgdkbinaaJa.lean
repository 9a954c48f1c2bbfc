/- The stable sort's merge over arrays: rotation, cross order, sorted blocks. Plain words, no program, no condition. -/
import Derived.Sort.LotA
namespace Go.Proofs.Ytcblhfjgdkbinaa.Re
open Go.Sort
set_option linter.unusedVariables false

section
variable {α : Type} [Inhabited α] {lt : α → α → Bool}
/-- What stands at k when [s, m) and [m, e) are exchanged. -/
def rotF (d : Array α) (s m e k : Nat) : α :=
  if s ≤ k ∧ k < s + (e - m) then d[k + (m - s)]! else if s + (e - m) ≤ k ∧ k < e then d[k - (e - m)]! else d[k]!
theorem rotF_lo {d : Array α} {s m e k : Nat} (h : k < s) : rotF d s m e k = d[k]! := by
  unfold rotF; rw [if_neg (by omega), if_neg (by omega)]
theorem rotF_hi {d : Array α} {s m e k : Nat} (h1 : s ≤ m) (h2 : m ≤ e) (h : e ≤ k) : rotF d s m e k = d[k]! := by
  unfold rotF; rw [if_neg (by omega), if_neg (by omega)]
theorem rotF_a {d : Array α} {s m e k : Nat} (h1 : s ≤ k) (h2 : k < s + (e - m)) : rotF d s m e k = d[k + (m - s)]! := by
  unfold rotF; rw [if_pos ⟨h1, h2⟩]
theorem rotF_b {d : Array α} {s m e k : Nat} (h1 : s + (e - m) ≤ k) (h2 : k < e) : rotF d s m e k = d[k - (e - m)]! := by
  unfold rotF; rw [if_neg (by omega), if_pos ⟨h1, h2⟩]
/-- One side empty: all stays. -/
theorem rotF_id {d : Array α} {s m e : Nat} (hs : s ≤ m) (he : m ≤ e) (h : m ≤ s ∨ e ≤ m) (k : Nat) : rotF d s m e k = d[k]! := by
  unfold rotF
  split
  · congr 1; omega
  · split
    · congr 1; omega
    · rfl
/-- The first j of the left side go to the right side's end: what is left to exchange. -/
theorem rot_left {d d' : Array α} {s m e : Nat} (hs : s < m) (he : m < e) (h : e - m < m - s)
    (hd : ∀ k, d'[k]! = if s ≤ k ∧ k < s + (e - m) then d[k + (m - s)]! else if m ≤ k ∧ k < e then d[k - (m - s)]! else d[k]!) (k : Nat) :
    rotF d' (s + (e - m)) m e k = rotF d s m e k := by
  by_cases h1 : k < s
  · rw [rotF_lo (by omega), rotF_lo h1, hd, if_neg (by omega), if_neg (by omega)]
  · by_cases h2 : k < s + (e - m)
    · rw [rotF_lo h2, rotF_a (by omega) h2, hd, if_pos ⟨by omega, h2⟩]
    · by_cases h3 : e ≤ k
      · rw [rotF_hi (by omega) (by omega) h3, rotF_hi (by omega) (by omega) h3, hd, if_neg (by omega), if_neg (by omega)]
      · by_cases h4 : k < s + (e - m) + (e - m)
        · rw [rotF_a (by omega) h4, rotF_b (by omega) (by omega), hd, if_neg (by omega), if_pos ⟨by omega, by omega⟩]
          congr 1; omega
        · rw [rotF_b (by omega) (by omega), rotF_b (by omega) (by omega), hd, if_neg (by omega), if_neg (by omega)]
/-- The left side goes to the right side's end. -/
theorem rot_right {d d' : Array α} {s m e : Nat} (hs : s < m) (he : m < e) (h : m - s < e - m)
    (hd : ∀ k, d'[k]! = if s ≤ k ∧ k < m then d[k + (e - m)]! else if e - (m - s) ≤ k ∧ k < e then d[k - (e - m)]! else d[k]!) (k : Nat) :
    rotF d' s m (e - (m - s)) k = rotF d s m e k := by
  by_cases h1 : k < s
  · rw [rotF_lo (by omega), rotF_lo h1, hd, if_neg (by omega), if_neg (by omega)]
  · by_cases h3 : e ≤ k
    · rw [rotF_hi (by omega) (by omega) (by omega), rotF_hi (by omega) (by omega) h3, hd, if_neg (by omega), if_neg (by omega)]
    · by_cases h2 : e - (m - s) ≤ k
      · rw [rotF_hi (by omega) (by omega) h2, rotF_b (by omega) (by omega), hd, if_neg (by omega), if_pos ⟨h2, by omega⟩]
      · by_cases h4 : k < s + (e - (m - s) - m)
        · rw [rotF_a (by omega) h4, rotF_a (by omega) (by omega), hd, if_neg (by omega), if_neg (by omega)]
        · rw [rotF_b (by omega) (by omega), rotF_a (by omega) (by omega), hd, if_pos ⟨by omega, by omega⟩]
          congr 1; omega
/-- Both sides alike long: exchanged at once. -/
theorem rot_same {d d' : Array α} {s m e : Nat} (hs : s ≤ m) (he : m ≤ e) (h : m - s = e - m)
    (hd : ∀ k, d'[k]! = if s ≤ k ∧ k < m then d[k + (e - m)]! else if m ≤ k ∧ k < e then d[k - (m - s)]! else d[k]!) (k : Nat) :
    d'[k]! = rotF d s m e k := by
  rw [hd]
  by_cases h1 : s ≤ k ∧ k < m
  · rw [if_pos h1, rotF_a h1.1 (by omega), h]
  · rw [if_neg h1]
    by_cases h2 : m ≤ k ∧ k < e
    · rw [if_pos h2, rotF_b (by omega) h2.2, h]
    · rw [if_neg h2]
      unfold rotF
      rw [if_neg (by omega), if_neg (by omega)]
omit [Inhabited α] in
theorem SWO.asym (hS : SWO lt) {x y : α} (h : lt x y = true) : lt y x = false := by
  cases hyx : lt y x with
  | false => rfl
  | true => have := hS.trans x y x h hyx; rw [hS.irrefl] at this; cases this
theorem sorted_mono {a b a' b' : Nat} {d : Array α} (h : SortedIn lt a b d) (ha : a ≤ a') (hb : b' ≤ b) : SortedIn lt a' b' d := fun i j h1 h2 h3 => h i j (by omega) h2 (by omega)
theorem sorted_le (hS : SWO lt) {a b : Nat} {d : Array α} (h : SortedIn lt a b d) {i j : Nat} (h1 : a ≤ i) (h2 : i ≤ j) (h3 : j < b) : lt d[j]! d[i]! = false := by
  rcases Nat.eq_or_lt_of_le h2 with e | e
  · rw [e]; exact hS.irrefl _
  · exact h i j h1 e h3
theorem sorted_join {a c b : Nat} {d : Array α} (h1 : SortedIn lt a c d) (h2 : SortedIn lt c b d) (h : ∀ i j, a ≤ i → i < c → c ≤ j → j < b → lt d[j]! d[i]! = false) : SortedIn lt a b d := fun i j hi hij hj => by
  by_cases h3 : j < c
  · exact h1 i j hi hij h3
  · by_cases h4 : i < c
    · exact h i j hi h4 (by omega) hj
    · exact h2 i j (by omega) hij hj
theorem sorted_one {a b : Nat} (d : Array α) (h : b ≤ a + 1) : SortedIn lt a b d := fun i j h1 h2 h3 => by omega
theorem sorted_other {a b x y : Nat} {d d' : Array α} (h : PermIn x y d d') (hs : SortedIn lt a b d) (hd : b ≤ x ∨ y ≤ a) : SortedIn lt a b d' := fun i j h1 h2 h3 => by
  rw [h.2.1 i (by omega), h.2.1 j (by omega)]; exact hs i j h1 h2 h3
/-- Where both sides are cut so that what is exchanged stands right: the four parts are in order, and none of the first two is behind one of the last two. -/
structure Cut (lt : α → α → Bool) (a s mid e b : Nat) (d : Array α) : Prop where
  s1 : SortedIn lt a s d
  s2 : SortedIn lt s mid d
  s3 : SortedIn lt mid e d
  s4 : SortedIn lt e b d
  x : ∀ i j, a ≤ i → i < mid → mid ≤ j → j < b → lt d[j]! d[i]! = false
theorem cut_of (hS : SWO lt) {d d' : Array α} {a s m e b mid : Nat} (h1 : SortedIn lt a m d) (h2 : SortedIn lt m b d) (has : a ≤ s) (hsm : s ≤ m) (hme : m ≤ e) (heb : e ≤ b) (hmid : mid = s + (e - m))
    (p1 : a < s → e < b → lt d[e]! d[s - 1]! = false) (p2 : s < m → m < e → lt d[e - 1]! d[s]! = true) (hd : ∀ k, d'[k]! = rotF d s m e k) : Cut lt a s mid e b d' := by
  subst hmid
  refine ⟨?_, ?_, ?_, ?_, ?_⟩
  · intro i j hi hij hj
    rw [hd, hd, rotF_lo (by omega), rotF_lo (by omega)]
    exact h1 i j hi hij (by omega)
  · intro i j hi hij hj
    rw [hd, hd, rotF_a (by omega) (by omega), rotF_a (by omega) (by omega)]
    exact h2 _ _ (by omega) (by omega) (by omega)
  · intro i j hi hij hj
    rw [hd, hd, rotF_b (by omega) (by omega), rotF_b (by omega) (by omega)]
    exact h1 _ _ (by omega) (by omega) (by omega)
  · intro i j hi hij hj
    rw [hd, hd, rotF_hi hsm hme (by omega), rotF_hi hsm hme (by omega)]
    exact h2 _ _ (by omega) (by omega) (by omega)
  · intro i j hi him hj hjb
    rw [hd, hd]
    by_cases hi1 : i < s
    · rw [rotF_lo (k := i) hi1]
      by_cases hj1 : j < e
      · rw [rotF_b (k := j) (by omega) hj1]
        exact h1 _ _ hi (by omega) (by omega)
      · rw [rotF_hi (k := j) hsm hme (by omega)]
        exact hS.ntrans _ _ _ (hS.ntrans _ _ _ (sorted_le hS h2 hme (by omega) hjb) (p1 (by omega) (by omega))) (sorted_le hS h1 hi (by omega) (by omega))
    · rw [rotF_a (k := i) (by omega) (by omega)]
      by_cases hj1 : j < e
      · rw [rotF_b (k := j) (by omega) hj1]
        have hl := SWO.asym hS (p2 (by omega) (by omega))
        exact hS.ntrans _ _ _ (hS.ntrans _ _ _ (sorted_le hS h1 (i := s) (by omega) (by omega) (by omega)) hl) (sorted_le hS h2 (i := i + (m - s)) (j := e - 1) (by omega) (by omega) (by omega))
      · rw [rotF_hi (k := j) hsm hme (by omega)]
        exact sorted_le hS h2 (by omega) (by omega) hjb
/-- Both halves merged: all in order. -/
theorem Cut.done {a s mid e b : Nat} {d d1 d2 : Array α} (h : Cut lt a s mid e b d) (hb : b ≤ d.size) (h1 : a ≤ mid) (h2 : mid ≤ b) (q1 : PermIn a mid d d1) (t1 : SortedIn lt a mid d1) (q2 : PermIn mid b d1 d2) (t2 : SortedIn lt mid b d2) : SortedIn lt a b d2 := by
  refine sorted_join (sorted_other q2 t1 (.inl (Nat.le_refl _))) t2 fun i j hi hi' hj hj' => ?_
  refine permIn_all d1 d2 mid b (fun y => lt y d2[i]! = false) (by rw [q1.1]; exact hb) q2 (fun j' k1 k2 => ?_) j hj hj'
  rw [q1.2.1 j' (.inr k1), q2.2.1 i (.inl hi')]
  exact permIn_all d d1 a mid (fun x => lt d[j']! x = false) (by omega) q1 (fun i' k3 k4 => h.x i' j' k3 k4 k1 k2) i hi hi'
/-- The left side is one: it goes to its place. -/
theorem one_left (hS : SWO lt) {d d' : Array α} {a i b : Nat} (h2 : SortedIn lt (a + 1) b d) (h3 : a + 1 ≤ i) (h4 : i ≤ b) (p1 : i < b → lt d[i]! d[a]! = false) (p2 : a + 1 < i → lt d[i - 1]! d[a]! = true) (hd : ∀ k, d'[k]! = rotF d a (a + 1) i k) : SortedIn lt a b d' := by
  have hc := cut_of (mid := a + (i - (a + 1))) (s := a) hS (sorted_one d (Nat.le_refl _)) h2 (Nat.le_refl _) (by omega) h3 h4 rfl (fun h => by omega) (fun _ h => p2 h) hd
  refine sorted_join hc.s2 ?_ hc.x
  refine sorted_join (c := i) hc.s3 hc.s4 fun x y k1 k2 k3 k4 => ?_
  rw [hd, hd, rotF_hi (by omega) h3 k3, rotF_b k1 k2, show x - (i - (a + 1)) = a by omega]
  exact hS.ntrans _ _ _ (sorted_le hS h2 (i := i) (by omega) k3 k4) (p1 (by omega))
/-- The right side is one. -/
theorem one_right (hS : SWO lt) {d d' : Array α} {a i m : Nat} (h1 : SortedIn lt a m d) (h3 : a ≤ i) (h4 : i ≤ m) (p1 : a < i → lt d[m]! d[i - 1]! = false) (p2 : i < m → lt d[m]! d[i]! = true) (hd : ∀ k, d'[k]! = rotF d i m (m + 1) k) : SortedIn lt a (m + 1) d' := by
  have hc := cut_of (mid := i + (m + 1 - m)) (e := m + 1) (b := m + 1) hS h1 (sorted_one d (Nat.le_refl _)) h3 h4 (by omega) (Nat.le_refl _) rfl (fun _ h => by omega) (fun h _ => by rw [Nat.add_sub_cancel]; exact p2 h) hd
  refine sorted_join ?_ hc.s3 hc.x
  refine sorted_join hc.s1 hc.s2 fun x y k1 k2 k3 k4 => ?_
  rw [hd, hd, rotF_lo k2, rotF_a k3 k4, show y + (m - i) = m by omega]
  exact hS.ntrans _ _ _ (p1 (by omega)) (sorted_le hS h1 (j := i - 1) k1 (by omega) (by omega))
/-- All pieces of length s, each from a multiple of it, are in order. -/
def Bl (lt : α → α → Bool) (s n : Nat) (d : Array α) : Prop := ∀ x, s ∣ x → SortedIn lt x (min (x + s) n) d
theorem Bl.all {s n : Nat} {d : Array α} (h : Bl lt s n d) (hs : n ≤ s) : SortedIn lt 0 n d := by
  have := h 0 (Nat.dvd_zero s)
  rwa [show min (0 + s) n = n by omega] at this
theorem dvd_step {s x a : Nat} (h1 : s ∣ x) (h2 : s ∣ a) (h : x < a) : x + s ≤ a := by
  obtain ⟨q, rfl⟩ := h1
  obtain ⟨t, rfl⟩ := h2
  have h3 : q < t := Nat.lt_of_mul_lt_mul_left h
  have := Nat.mul_le_mul_left s (show q + 1 ≤ t from h3)
  rwa [Nat.mul_add, Nat.mul_one] at this
/-- Under way: ahead of a the pieces are twice as long. -/
structure BlW (lt : α → α → Bool) (s n a : Nat) (d : Array α) : Prop where
  dv : 2 * s ∣ a
  an : a ≤ n
  lo : ∀ x, 2 * s ∣ x → x < a → SortedIn lt x (x + 2 * s) d
  hi : ∀ x, s ∣ x → a ≤ x → SortedIn lt x (min (x + s) n) d
theorem BlW.start {s n : Nat} {d : Array α} (h : Bl lt s n d) : BlW lt s n 0 d := ⟨Nat.dvd_zero _, Nat.zero_le _, fun x _ h => by omega, fun x hx _ => h x hx⟩
theorem BlW.dv1 {s n a : Nat} {d : Array α} (h : BlW lt s n a d) : s ∣ a := Nat.dvd_trans (Nat.dvd_mul_left s 2) h.dv
theorem BlW.left {s n a : Nat} {d : Array α} (h : BlW lt s n a d) (hn : a + s ≤ n) : SortedIn lt a (a + s) d := by
  have := h.hi a h.dv1 (Nat.le_refl _)
  rwa [show min (a + s) n = a + s by omega] at this
theorem BlW.right {s n a : Nat} {d : Array α} (h : BlW lt s n a d) : SortedIn lt (a + s) (min (a + s + s) n) d :=
  h.hi (a + s) (Nat.dvd_add h.dv1 (Nat.dvd_refl s)) (Nat.le_add_right _ _)
theorem BlW.step {s n a : Nat} {d d' : Array α} (h : BlW lt s n a d) (hs : 0 < s) (hn : a + 2 * s ≤ n) (q : PermIn a (a + 2 * s) d d') (t : SortedIn lt a (a + 2 * s) d') : BlW lt s n (a + 2 * s) d' := by
  refine ⟨Nat.dvd_add h.dv (Nat.dvd_refl _), hn, fun x hx hl => ?_, fun x hx hl => sorted_other q (h.hi x hx (by omega)) (.inr hl)⟩
  rcases Nat.lt_trichotomy x a with k | k | k
  · exact sorted_other q (h.lo x hx k) (.inl (dvd_step hx h.dv k))
  · subst k; exact t
  · have := dvd_step h.dv hx k; omega
theorem BlW.last {s n a : Nat} {d d' : Array α} (h : BlW lt s n a d) (hs : 0 < s) (hn : n < a + 2 * s) (q : PermIn a n d d') (t : SortedIn lt a n d') : Bl lt (2 * s) n d' := fun x hx => by
  rcases Nat.lt_trichotomy x a with k | k | k
  · have h1 := dvd_step hx h.dv k
    have := h.an
    rw [show min (x + 2 * s) n = x + 2 * s by omega]
    exact sorted_other q (h.lo x hx k) (.inl h1)
  · subst k; rwa [show min (x + 2 * s) n = n by omega]
  · have := dvd_step h.dv hx k
    exact sorted_one _ (by omega)
theorem BlW.short {s n a : Nat} {d : Array α} (h : BlW lt s n a d) (hn : n ≤ a + s) : SortedIn lt a n d := by
  have := h.hi a h.dv1 (Nat.le_refl _)
  rwa [show min (a + s) n = n by have := h.an; omega] at this
/-- The first round: pieces sorted by insertion. -/
structure BlI (lt : α → α → Bool) (s n a : Nat) (d : Array α) : Prop where
  dv : s ∣ a
  an : a ≤ n
  lo : ∀ x, s ∣ x → x < a → SortedIn lt x (x + s) d
theorem BlI.start {s n : Nat} {d : Array α} : BlI lt s n 0 d := ⟨Nat.dvd_zero _, Nat.zero_le _, fun x _ h => by omega⟩
theorem BlI.step {s n a : Nat} {d d' : Array α} (h : BlI lt s n a d) (hs : 0 < s) (hn : a + s ≤ n) (q : PermIn a (a + s) d d') (t : SortedIn lt a (a + s) d') : BlI lt s n (a + s) d' := by
  refine ⟨Nat.dvd_add h.dv (Nat.dvd_refl _), hn, fun x hx hl => ?_⟩
  rcases Nat.lt_trichotomy x a with k | k | k
  · exact sorted_other q (h.lo x hx k) (.inl (dvd_step hx h.dv k))
  · subst k; exact t
  · have := dvd_step h.dv hx k; omega
theorem BlI.last {s n a : Nat} {d d' : Array α} (h : BlI lt s n a d) (hs : 0 < s) (hn : n < a + s) (q : PermIn a n d d') (t : SortedIn lt a n d') : Bl lt s n d' := fun x hx => by
  rcases Nat.lt_trichotomy x a with k | k | k
  · have h1 := dvd_step hx h.dv k
    have := h.an
    rw [show min (x + s) n = x + s by omega]
    exact sorted_other q (h.lo x hx k) (.inl h1)
  · subst k; rwa [show min (x + s) n = n by omega]
  · have := dvd_step h.dv hx k
    exact sorted_one _ (by omega)
end
end Go.Proofs.Ytcblhfjgdkbinaa.Re
