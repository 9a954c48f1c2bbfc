/- What is chosen: the row in order. Plain words, no program, no condition. -/
import Derived.Test.YtcblhfjgdkbinaaJj
namespace Go.Proofs.Ytcblhfjgdkbinaa.Re
open Go.RowKit Go.Proofs.Ytcblhfjgdkbinaa.Mem Go.Proofs.Ytcblhfjgdkbinaa.Sl Go.Shelf Go.Sort
set_option linter.unusedVariables false

/-- Put in ahead of the first that it goes ahead of. -/
def insR (x : Rc) (l : List Rc) : List Rc := l.takeWhile (fun y => !lt x y) ++ x :: l.dropWhile (fun y => !lt x y)
def srt (l : List Rc) : List Rc := l.foldl (fun row x => insR x row) []
theorem srt_snoc (l : List Rc) (x : Rc) : srt (l ++ [x]) = insR x (srt l) := by unfold srt; rw [List.foldl_append]; rfl
theorem insR_perm (x : Rc) (l : List Rc) : (insR x l).Perm (x :: l) := by
  unfold insR
  refine (List.perm_middle).trans ?_
  rw [List.takeWhile_append_dropWhile]
theorem srt_perm (l : List Rc) : (srt l).Perm l := by
  have : ∀ (l r : List Rc), (l.foldl (fun row x => insR x row) r).Perm (l ++ r) := by
    intro l
    induction l with
    | nil => intro r; exact List.Perm.refl _
    | cons x t ih =>
      intro r
      refine (ih (insR x r)).trans ?_
      refine (List.Perm.append_left t (insR_perm x r)).trans ?_
      exact List.perm_middle
  have h := this l []
  rwa [List.append_nil] at h
theorem srt_len (l : List Rc) : (srt l).length = l.length := (srt_perm l).length_eq
/-- None is ahead of one ahead of it. -/
def Sd (l : List Rc) : Prop := l.Pairwise fun a b => lt b a = false
theorem dropWhile_head {α : Type} (p : α → Bool) : ∀ (l : List α) (y : α) (t : List α), l.dropWhile p = y :: t → p y = false
  | [], y, t, h => by cases h
  | x :: l, y, t, h => by
    rw [List.dropWhile_cons] at h
    split at h
    · exact dropWhile_head p l y t h
    · next hx =>
      injection h with h1 h2
      subst h1
      simpa using hx
theorem mem_tw {α : Type} (p : α → Bool) : ∀ (l : List α) (a : α), a ∈ l.takeWhile p → p a = true
  | [], a, h => by cases h
  | x :: l, a, h => by
    rw [List.takeWhile_cons] at h
    split at h
    · next hx =>
      rcases List.mem_cons.1 h with rfl | h
      · exact hx
      · exact mem_tw p l a h
    · cases h
theorem insR_sd (x : Rc) (l : List Rc) (h : Sd l) : Sd (insR x l) := by
  have hs : Sd (l.takeWhile (fun y => !lt x y) ++ l.dropWhile (fun y => !lt x y)) := by rw [List.takeWhile_append_dropWhile]; exact h
  obtain ⟨h1, h2, h3⟩ := List.pairwise_append.1 hs
  refine List.pairwise_append.2 ⟨h1, List.pairwise_cons.2 ⟨fun y hy => ?_, h2⟩, fun a ha b hb => ?_⟩
  · -- x is ahead of the first of the rest, and so of all
    rcases hd : l.dropWhile (fun y => !lt x y) with _ | ⟨z, t⟩
    · rw [hd] at hy; cases hy
    · have hz := dropWhile_head _ _ _ _ hd
      have hz' : lt x z = true := by simpa using hz
      rw [hd] at hy h2
      rcases List.mem_cons.1 hy with rfl | hy
      · exact SWO.asym swo hz'
      · exact swo.ntrans _ _ _ ((List.pairwise_cons.1 h2).1 y hy) (SWO.asym swo hz')
  · have ha' : lt x a = false := by
      have := mem_tw _ _ _ ha
      simpa using this
    rcases List.mem_cons.1 hb with rfl | hb
    · exact ha'
    · exact h3 a ha b hb
theorem srt_sd (l : List Rc) : Sd (srt l) := by
  have : ∀ (l r : List Rc), Sd r → Sd (l.foldl (fun row x => insR x row) r) := by
    intro l
    induction l with
    | nil => intro r h; exact h
    | cons x t ih => intro r h; exact ih _ (insR_sd x r h)
  exact this l [] List.Pairwise.nil
/-- In order, the same ones, alike ones the same: the same row. -/
theorem uniq : ∀ (a b : List Rc), a.Perm b → Sd a → Sd b → (∀ x, x ∈ a → ∀ y, y ∈ a → lt x y = false → lt y x = false → x = y) → a = b
  | [], b, hp, _, _, _ => (List.Perm.nil_eq hp)
  | x :: a, [], hp, _, _, _ => by
    have := hp.length_eq
    simp at this
  | x :: a, y :: b, hp, h1, h2, h => by
    have hx : x ∈ y :: b := hp.subset (List.mem_cons_self ..)
    have hy : y ∈ x :: a := hp.symm.subset (List.mem_cons_self ..)
    have e : x = y := by
      refine h x (List.mem_cons_self ..) y hy ?_ ?_
      · rcases List.mem_cons.1 hx with e | hx
        · rw [e]; exact swo.irrefl _
        · exact (List.pairwise_cons.1 h2).1 x hx
      · rcases List.mem_cons.1 hy with e | hy
        · rw [e]; exact swo.irrefl _
        · exact (List.pairwise_cons.1 h1).1 y hy
    subst e
    rw [uniq a b (List.Perm.cons_inv hp) (List.pairwise_cons.1 h1).2 (List.pairwise_cons.1 h2).2 fun u hu v hv => h u (List.mem_cons_of_mem _ hu) v (List.mem_cons_of_mem _ hv)]
theorem alike {x y : Rc} (hx : x.locked = false) (hy : y.locked = false) (h1 : lt x y = false) (h2 : lt y x = false) : x = y := by
  rw [lt_no] at h1 h2
  obtain ⟨a, b, c, d, e⟩ := x
  obtain ⟨a', b', c', d', e'⟩ := y
  simp only at hx hy h1 h2
  obtain rfl : a = a' := by omega
  obtain rfl : b = b' := by omega
  obtain rfl : c = c' := by omega
  obtain rfl : d = d' := by omega
  rw [hx, hy]
theorem goF_un {g : Int} {x : Rc} (h : goF g x = true) : x.locked = false := by
  unfold goF at h
  rcases hl : x.locked with _ | _
  · rfl
  · rw [hl] at h; simp at h
/-- What the sort leaves is the row in order. -/
theorem sorted_is {l : List Rc} {d : Array Rc} (hl : ∀ x, x ∈ l → x.locked = false) (hp : PermIn 0 l.length l.toArray d) (hs : SortedIn lt 0 l.length d) : d.toList = srt l := by
  have hsz : d.size = l.length := by rw [hp.1]; simp
  have hpm : d.toList.Perm l := by
    have := hp.2.2
    have e1 : d.extract 0 l.length = d := by rw [← hsz]; simp
    have e2 : l.toArray.extract 0 l.length = l.toArray := by
      have : l.length = l.toArray.size := by simp
      rw [this]; simp
    rw [e1, e2] at this
    simpa using this
  refine uniq d.toList (srt l) (hpm.trans (srt_perm l).symm) ?_ (srt_sd l) fun x hx y hy h1 h2 => alike (hl x (hpm.subset hx)) (hl y (hpm.subset hy)) h1 h2
  refine List.pairwise_iff_getElem.2 fun i j hi hj hij => ?_
  have hj' : j < d.size := by simpa using hj
  have hi' : i < d.size := by simpa using hi
  have := hs i j (Nat.zero_le _) hij (by omega)
  rw [getElem!_pos d i hi', getElem!_pos d j hj'] at this
  simpa using this
/-- Those that go. -/
def chosen (l : List Rc) (g part : Int) : List Rc := (srt (l.filter (goF g))).take (((l.filter (goF g)).length : Int) * part / 100).toNat
def idsR (l : List Rc) : List Int := l.map Rc.id
end Go.Proofs.Ytcblhfjgdkbinaa.Re
