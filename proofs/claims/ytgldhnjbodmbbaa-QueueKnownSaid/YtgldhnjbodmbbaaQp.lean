/- Queue: rows that are linked in a ring; what is moved; what is next. Plain laws, no program in sight. -/
import Derived.Test.YtgldhnjbodmbbaaRows
namespace Go.Proofs.Ytgldhnjbodmbbaa.Qu
set_option linter.unusedVariables false

def updN (f : Nat → Nat) (a b : Nat) : Nat → Nat := fun u => if u = a then b else f u
theorem updN_same (f : Nat → Nat) (a b : Nat) : updN f a b a = b := if_pos rfl
theorem updN_other {f : Nat → Nat} {a b u : Nat} (h : u ≠ a) : updN f a b u = f u := if_neg h
/-- Each one's neighbour behind is the next one, whose neighbour ahead it is. -/
def Lk (bh ah : Nat → Nat) : List Nat → Prop
  | a :: b :: r => (bh a = b ∧ ah b = a) ∧ Lk bh ah (b :: r)
  | _ => True
def cyc (row : List Nat) : List Nat := 0 :: (row ++ [0])
theorem Lk_get {bh ah : Nat → Nat} : ∀ (l : List Nat), Lk bh ah l → ∀ i (h : i + 1 < l.length), bh (l[i]'(by omega)) = l[i + 1] ∧ ah l[i + 1] = l[i]'(by omega)
  | [], _, i, h => absurd h (by simp)
  | [a], _, i, h => absurd h (by simp)
  | a :: b :: r, hl, 0, h => hl.1
  | a :: b :: r, hl, i + 1, h => Lk_get (b :: r) hl.2 i (by simpa using h)
theorem Lk_congr {bh ah bh' ah' : Nat → Nat} : ∀ (l : List Nat), Lk bh ah l → (∀ a, a ∈ l.dropLast → bh' a = bh a) → (∀ b, b ∈ l.tail → ah' b = ah b) → Lk bh' ah' l
  | [], _, _, _ => trivial
  | [a], _, _, _ => trivial
  | a :: b :: r, hl, h1, h2 => by
    refine ⟨⟨?_, ?_⟩, Lk_congr (b :: r) hl.2 (fun x hx => h1 x (by simp [List.dropLast, hx])) (fun x hx => h2 x (List.mem_cons_of_mem _ hx))⟩
    · rw [h1 a (by simp [List.dropLast])]; exact hl.1.1
    · rw [h2 b (by simp)]; exact hl.1.2
theorem Lk_app {bh ah : Nat → Nat} {a b : Nat} {l2 : List Nat} : ∀ (l1 : List Nat), Lk bh ah (l1 ++ a :: b :: l2) ↔ Lk bh ah (l1 ++ [a]) ∧ (bh a = b ∧ ah b = a) ∧ Lk bh ah (b :: l2)
  | [] => by show (_ ∧ _) ↔ True ∧ _; simp
  | [x] => by show ((_ ∧ _) ∧ (_ ∧ _)) ↔ ((_ ∧ _) ∧ True) ∧ _; simp [and_assoc]
  | x :: y :: r => by
    have ih := Lk_app (bh := bh) (ah := ah) (a := a) (b := b) (l2 := l2) (y :: r)
    show (_ ∧ Lk bh ah (y :: r ++ a :: b :: l2)) ↔ (_ ∧ Lk bh ah (y :: r ++ [a])) ∧ _
    rw [ih, ← and_assoc]
theorem snoc_of (l : List Nat) (a : Nat) : ∃ P p, a :: l = P ++ [p] := by
  refine ⟨(a :: l).dropLast, (a :: l).getLast (by simp), (List.dropLast_concat_getLast _).symm⟩
theorem cons_of (l : List Nat) (a : Nat) : ∃ s S, l ++ [a] = s :: S := by
  rcases l with _ | ⟨x, l⟩
  · exact ⟨a, [], rfl⟩
  · exact ⟨x, l ++ [a], rfl⟩
theorem tail_snoc {P : List Nat} {p a : Nat} {l : List Nat} (h : a :: l = P ++ [p]) : (P ++ [p]).tail = l := by rw [← h]; rfl
theorem dropLast_cons {s a : Nat} {S l : List Nat} (h : l ++ [a] = s :: S) : (s :: S).dropLast = l := by rw [← h]; simp
/-- A variable is taken out. -/
theorem unlink_lk {bh ah : Nat → Nat} {l1 l2 : List Nat} {v : Nat} (nd : (l1 ++ v :: l2).Nodup) (h0 : 0 ∉ l1 ++ v :: l2) (h : Lk bh ah (cyc (l1 ++ v :: l2))) :
    Lk (updN bh (ah v) (bh v)) (updN ah (bh v) (ah v)) (cyc (l1 ++ l2)) := by
  obtain ⟨P, p, e1⟩ := snoc_of l1 0
  obtain ⟨s, S, e2⟩ := cons_of l2 0
  have c1 : cyc (l1 ++ v :: l2) = (P ++ [p]) ++ v :: (s :: S) := by rw [← e1, ← e2]; simp [cyc]
  have c2 : cyc (l1 ++ l2) = P ++ p :: s :: S := by
    have : cyc (l1 ++ l2) = (P ++ [p]) ++ (s :: S) := by rw [← e1, ← e2]; simp [cyc]
    rw [this]; simp
  rw [c1, show (P ++ [p]) ++ v :: (s :: S) = P ++ p :: v :: (s :: S) by simp] at h
  obtain ⟨g1, ⟨g2, g3⟩, g4⟩ := (Lk_app P).1 h
  obtain ⟨⟨g5, g6⟩, g7⟩ := g4
  rw [g3, g5, c2]
  have hnd := List.nodup_append.1 nd
  have hnd2 := (List.nodup_cons.1 hnd.2.1)
  have hp : p = 0 ∨ p ∈ l1 := by
    have : p ∈ 0 :: l1 := by rw [e1]; simp
    simpa using this
  have hs : s = 0 ∨ s ∈ l2 := by
    have : s ∈ l2 ++ [0] := by rw [e2]; simp
    simpa [or_comm] using this
  have hz1 : 0 ∉ l1 := fun hh => h0 (by simp [hh])
  have hz2 : 0 ∉ l2 := fun hh => h0 (by simp [hh])
  refine (Lk_app P).2 ⟨Lk_congr _ g1 (fun a ha => updN_other ?_) (fun b hb => updN_other ?_), ⟨updN_same _ _ _, updN_same _ _ _⟩, Lk_congr _ g7 (fun a ha => updN_other ?_) (fun b hb => updN_other ?_)⟩
  · -- a in P, not p
    rw [List.dropLast_concat] at ha
    rintro rfl
    have n1 : (P ++ [a]).Nodup := by rw [← e1]; exact List.nodup_cons.2 ⟨hz1, hnd.1⟩
    exact (List.nodup_append.1 n1).2.2 a ha a (by simp) rfl
  · rw [tail_snoc e1] at hb
    rintro rfl
    rcases hs with rfl | hs
    · exact hz1 hb
    · exact hnd.2.2 b hb b (List.mem_cons_of_mem _ hs) rfl
  · rw [dropLast_cons e2] at ha
    rintro rfl
    rcases hp with rfl | hp
    · exact hz2 ha
    · exact hnd.2.2 a hp a (List.mem_cons_of_mem _ ha) rfl
  · have hb : b ∈ S := hb
    rintro rfl
    have n1 : (b :: S).Nodup := by
      rw [← e2, List.nodup_append]
      exact ⟨hnd2.2, by simp, fun x hx y hy e => hz2 (by simp at hy; rw [← hy, ← e]; exact hx)⟩
    exact (List.nodup_cons.1 n1).1 hb
/-- A variable is put in at the end. -/
theorem append_lk {bh ah : Nat → Nat} {row : List Nat} {v : Nat} (nd : row.Nodup) (h0 : 0 ∉ row) (hv : v ∉ row) (hv0 : v ≠ 0) (h : Lk bh ah (cyc row)) :
    Lk (updN (updN bh (ah 0) v) v 0) (updN (updN ah v (ah 0)) 0 v) (cyc (row ++ [v])) := by
  obtain ⟨P, p, e1⟩ := snoc_of row 0
  have c1 : cyc row = P ++ p :: 0 :: [] := by
    have : cyc row = (P ++ [p]) ++ [0] := by rw [← e1]; rfl
    rw [this]; simp
  have c2 : cyc (row ++ [v]) = P ++ p :: v :: [0] := by
    have : cyc (row ++ [v]) = (P ++ [p]) ++ [v, 0] := by rw [← e1]; simp [cyc]
    rw [this]; simp
  rw [c1] at h
  obtain ⟨g1, ⟨g2, g3⟩, _⟩ := (Lk_app P).1 h
  have hp : p = 0 ∨ p ∈ row := by
    have : p ∈ 0 :: row := by rw [e1]; simp
    simpa using this
  have hpv : p ≠ v := by rintro rfl; rcases hp with hp | hp; exact hv0 hp; exact hv hp
  rw [c2, g3]
  refine (Lk_app P).2 ⟨Lk_congr _ g1 (fun a ha => ?_) (fun b hb => ?_), ⟨?_, ?_⟩, ⟨⟨updN_same _ _ _, updN_same _ _ _⟩, trivial⟩⟩
  · rw [List.dropLast_concat] at ha
    have n1 : (P ++ [p]).Nodup := by rw [← e1]; exact List.nodup_cons.2 ⟨h0, nd⟩
    have hap : a ≠ p := by rintro rfl; exact (List.nodup_append.1 n1).2.2 a ha a (by simp) rfl
    have ham : a = 0 ∨ a ∈ row := by
      have : a ∈ 0 :: row := by rw [e1]; simp [ha]
      simpa using this
    have hav : a ≠ v := by rintro rfl; rcases ham with hh | hh; exact hv0 hh; exact hv hh
    rw [updN_other hav, updN_other hap]
  · rw [tail_snoc e1] at hb
    have h1 : b ≠ 0 := by rintro rfl; exact h0 hb
    have h2 : b ≠ v := by rintro rfl; exact hv hb
    rw [updN_other h1, updN_other h2]
  · rw [updN_other hpv, updN_same]
  · rw [updN_other hv0, updN_same]
/-- The row behind moves of some of its variables, one by one. -/
def mvRow (row vs : List Nat) : List Nat := row.filter (fun v => !vs.contains v) ++ vs
theorem mvRow_nil (row : List Nat) : mvRow row [] = row := by unfold mvRow; simp [List.filter_eq_self.2]
theorem split_of {row : List Nat} {v : Nat} (hv : v ∈ row) : ∃ l1 l2, row = l1 ++ v :: l2 := by
  obtain ⟨l1, l2, h⟩ := List.append_of_mem hv
  exact ⟨l1, l2, h⟩
theorem filter_ne {l1 l2 : List Nat} {v : Nat} (nd : (l1 ++ v :: l2).Nodup) : (l1 ++ v :: l2).filter (fun u => !decide (u = v)) = l1 ++ l2 := by
  have hnd := List.nodup_append.1 nd
  have h2 := List.nodup_cons.1 hnd.2.1
  rw [List.filter_append, List.filter_cons]
  have e1 : l1.filter (fun u => !decide (u = v)) = l1 := List.filter_eq_self.2 fun u hu => by
    have : u ≠ v := fun e => hnd.2.2 u hu v (by simp) e
    simp [this]
  have e2 : l2.filter (fun u => !decide (u = v)) = l2 := List.filter_eq_self.2 fun u hu => by
    have : u ≠ v := fun e => h2.1 (e ▸ hu)
    simp [this]
  rw [e1, e2]; simp
theorem mvRow_next {row vs : List Nat} {v : Nat} (nd : row.Nodup) (hv : v ∈ row) (hn : v ∉ vs) : ∃ l1 l2, mvRow row vs = l1 ++ v :: l2 ∧ mvRow row (vs ++ [v]) = l1 ++ l2 ++ [v] := by
  have hm : v ∈ row.filter (fun u => !vs.contains u) := List.mem_filter.2 ⟨hv, by simp [hn]⟩
  obtain ⟨l1, l2, e⟩ := split_of hm
  have nd2 : (l1 ++ v :: l2).Nodup := by rw [← e]; exact nd.sublist List.filter_sublist
  refine ⟨l1, l2 ++ vs, ?_, ?_⟩
  · unfold mvRow; rw [e]; simp
  · unfold mvRow
    have : row.filter (fun u => !(vs ++ [v]).contains u) = (row.filter (fun u => !vs.contains u)).filter (fun u => !decide (u = v)) := by
      rw [List.filter_filter]
      refine List.filter_congr fun u _ => ?_
      rw [Bool.eq_iff_iff]
      simp [and_comm]
    rw [this, e, filter_ne nd2]; simp
theorem mvRow_nodup {row vs : List Nat} (nd : row.Nodup) (hvs : vs.Nodup) : (mvRow row vs).Nodup := by
  unfold mvRow
  rw [List.nodup_append]
  refine ⟨nd.sublist List.filter_sublist, hvs, fun a ha b hb e => ?_⟩
  subst e
  have := (List.mem_filter.1 ha).2
  simp [hb] at this
theorem mvRow_mem {row vs : List Nat} (h : ∀ v, v ∈ vs → v ∈ row) (v : Nat) : v ∈ mvRow row vs ↔ v ∈ row := by
  unfold mvRow
  simp only [List.mem_append, List.mem_filter]
  by_cases hv : v ∈ vs
  · simp [hv, h v hv]
  · simp [hv]
/-- Is a variable set? -/
def isSet (set : List Bool) (v : Nat) : Bool := decide (v ≤ set.length) && set.getD (v - 1) false
/-- The last one that is not set; 0: there is none. -/
def ansN (row : List Nat) (set : List Bool) : Nat := (row.reverse.find? fun v => !isSet set v).getD 0
theorem cyc_mid {row : List Nat} {i : Nat} (h : i < row.length) : (cyc row).getD (i + 1) 0 = row[i] := by
  unfold cyc
  rw [List.getD_eq_getElem?_getD, List.getElem?_cons_succ, List.getElem?_append_left h, List.getElem?_eq_getElem h]; rfl
theorem ans_of {row : List Nat} {set : List Bool} : ∀ (k : Nat), k ≤ row.length → (∀ j (h : j < row.length), k ≤ j → isSet set row[j] = true) → (∀ j (h : j < row.length), k = j + 1 → isSet set row[j] = false) → ansN row set = (cyc row).getD k 0 := by
  intro k hk h1 h2
  have e : row = row.take k ++ row.drop k := (List.take_append_drop k row).symm
  have hd : (row.drop k).reverse.find? (fun v => !isSet set v) = none := by
    rw [List.find?_eq_none]
    intro x hx
    rw [List.mem_reverse] at hx
    obtain ⟨j, hj, rfl⟩ := List.getElem_of_mem hx
    rw [List.length_drop] at hj
    rw [List.getElem_drop, h1 (k + j) (by omega) (by omega)]
    simp
  unfold ansN
  conv => lhs; rw [e]
  rw [List.reverse_append, List.find?_append, hd, Option.none_or]
  rcases k with _ | j
  · simp [cyc]
  · have hj : j < row.length := by omega
    rw [List.take_succ_eq_append_getElem hj, List.reverse_append]
    simp only [List.reverse_cons, List.reverse_nil, List.nil_append, List.cons_append, List.find?_cons, h2 j hj rfl, Bool.not_false, Option.getD_some]
    rw [cyc_mid hj]
theorem ans_spec (row : List Nat) (set : List Bool) : ∃ k, k ≤ row.length ∧ (∀ j (h : j < row.length), k ≤ j → isSet set row[j] = true) ∧ (∀ j (h : j < row.length), k = j + 1 → isSet set row[j] = false) ∧ ansN row set = (cyc row).getD k 0 := by
  have : ∀ n, n ≤ row.length → (∀ j (h : j < row.length), n ≤ j → isSet set row[j] = true) → ∃ k, k ≤ row.length ∧ (∀ j (h : j < row.length), k ≤ j → isSet set row[j] = true) ∧ (∀ j (h : j < row.length), k = j + 1 → isSet set row[j] = false) := by
    intro n
    induction n with
    | zero => intro _ h; exact ⟨0, Nat.zero_le _, h, fun j _ e => by omega⟩
    | succ n ih =>
      intro hn h
      by_cases hs : isSet set (row[n]'(by omega)) = true
      · refine ih (by omega) fun j hj hnj => ?_
        by_cases e : j = n
        · subst e; exact hs
        · exact h j hj (by omega)
      · refine ⟨n + 1, hn, h, fun j hj e => ?_⟩
        obtain rfl : n = j := by omega
        simpa using hs
  obtain ⟨k, h1, h2, h3⟩ := this row.length (Nat.le_refl _) (fun j h hj => by omega)
  exact ⟨k, h1, h2, h3, ans_of k h1 h2 h3⟩
theorem cyc_len (row : List Nat) : (cyc row).length = row.length + 2 := by simp [cyc]
theorem cyc_zero (row : List Nat) : (cyc row).getD 0 0 = 0 := rfl
theorem cyc_last (row : List Nat) : (cyc row).getD (row.length + 1) 0 = 0 := by simp [cyc]
theorem cyc_lk {bh ah : Nat → Nat} {row : List Nat} (h : Lk bh ah (cyc row)) {i : Nat} (hi : i ≤ row.length) : bh ((cyc row).getD i 0) = (cyc row).getD (i + 1) 0 ∧ ah ((cyc row).getD (i + 1) 0) = (cyc row).getD i 0 := by
  have hl := cyc_len row
  have := Lk_get _ h i (by omega)
  rw [List.getD_eq_getElem?_getD, List.getD_eq_getElem?_getD, List.getElem?_eq_getElem (by omega), List.getElem?_eq_getElem (by omega)]
  exact this
theorem cyc_le {row : List Nat} {N : Nat} (h : ∀ v, v ∈ row → 1 ≤ v ∧ v ≤ N) (i : Nat) : (cyc row).getD i 0 ≤ N := by
  rw [List.getD_eq_getElem?_getD]
  rcases he : (cyc row)[i]? with _ | x
  · exact Nat.zero_le _
  · have := List.mem_of_getElem? he
    simp only [cyc, List.mem_cons, List.mem_append, List.not_mem_nil, or_false] at this
    rcases this with rfl | h1 | rfl
    · exact Nat.zero_le _
    · exact (h _ h1).2
    · exact Nat.zero_le _
end Go.Proofs.Ytgldhnjbodmbbaa.Qu
