/- ReduceKeeps: the plain law. No program. -/
import Derived.Test.YtcblhfjgdkbinaaJn
namespace Go.Proofs.Ytcblhfjgdkbinaa.Re
open Go.RowKit Go.Proofs.Ytcblhfjgdkbinaa.Mem Go.Proofs.Ytcblhfjgdkbinaa.Sl Go.Shelf Go.Sort Go.Proofs.Ytcblhfjgdkbinaa.Sr
set_option linter.unusedVariables false

def rn (i : Nat) (x : Rc) : Rc := ⟨(i : Int) + 1, x.lbd, x.size, x.used, x.locked⟩
def renum (l : List Rc) : List Rc := (List.range l.length).map fun i => rn i l[i]!
theorem renum_len (l : List Rc) : (renum l).length = l.length := by simp [renum]
theorem renum_at {l : List Rc} {i : Nat} (h : i < l.length) : (renum l)[i]! = rn i l[i]! := by
  rw [getElem!_pos (renum l) i (by rw [renum_len]; exact h)]
  simp [renum]
theorem renum_ids (l : List Rc) : idsR (renum l) = (List.range l.length).map fun i : Nat => (i : Int) + 1 := by
  simp [idsR, renum, rn, Function.comp_def]
theorem nodup_ids (l : List Rc) : (idsR (renum l)).Nodup := by
  rw [renum_ids]
  refine List.Pairwise.map _ (fun a b (h : a ≠ b) e => h (by omega)) List.nodup_range
theorem goF_all {g : Int} {x : Rc} (h : goF g x = true) : x.locked = false ∧ tierF x.lbd g ≠ 1 ∧ x.used < 2 := by
  have hu := goF_un h
  refine ⟨hu, ?_⟩
  unfold goF at h
  rw [hu] at h
  simp only [Bool.false_eq_true, if_false] at h
  by_cases h2 : tierF x.lbd g = 2
  · rw [if_pos h2] at h
    have := of_decide_eq_true h
    exact ⟨by omega, by omega⟩
  · rw [if_neg h2] at h
    by_cases h3 : tierF x.lbd g = 3
    · rw [if_pos h3] at h
      have := of_decide_eq_true h
      exact ⟨by omega, by omega⟩
    · rw [if_neg h3] at h; cases h
structure Keep (l : List Rc) (gl p q : Int) (xs ys : List Int) (N : Nat) : Prop where
  ex : xs = idsR (chosen (renum l) gl p)
  ey : ys = idsR (chosen (renum l) gl q)
  eN : N = l.length
  le1 : xs.length ≤ ys.length
  le2 : ys.length ≤ N
  pre : ∀ i (h : i < xs.length) (h' : i < ys.length), xs[i] = ys[i]
  at_ : ∀ i (h : i < xs.length), ∃ j : Nat, xs[i] = (j : Int) + 1 ∧ j < N ∧ (renum l)[j]!.locked = false ∧ tierF (renum l)[j]!.lbd gl ≠ 1 ∧ (renum l)[j]!.used < 2
  ne : ∀ k i (h : k < xs.length) (h' : i < xs.length), k < i → xs[k] ≠ xs[i]
theorem keep_of (l : List Rc) (gl p q : Int) (h0 : 0 ≤ p) (h1 : p ≤ q) (h2 : q ≤ 100) : Keep l gl p q (idsR (chosen (renum l) gl p)) (idsR (chosen (renum l) gl q)) l.length := by
  obtain ⟨f, hf⟩ : ∃ f, f = (renum l).filter (goF gl) := ⟨_, rfl⟩
  have hfl : f.length ≤ l.length := by rw [hf, ← renum_len l]; exact List.length_filter_le _ _
  have hx : ∀ p, idsR (chosen (renum l) gl p) = (idsR (srt f)).take ((f.length : Int) * p / 100).toNat := fun p => by
    unfold chosen idsR; rw [← hf, List.map_take]
  have hsl : (idsR (srt f)).length = f.length := by unfold idsR; rw [List.length_map, srt_len]
  have b1 : (f.length : Int) * p ≤ (f.length : Int) * q := Int.mul_le_mul_of_nonneg_left h1 (by omega)
  have b2 : (f.length : Int) * q ≤ (f.length : Int) * 100 := Int.mul_le_mul_of_nonneg_left h2 (by omega)
  have b0 : 0 ≤ (f.length : Int) * p := Int.mul_nonneg (by omega) h0
  have l1 : ((idsR (srt f)).take ((f.length : Int) * p / 100).toNat).length = ((f.length : Int) * p / 100).toNat := by rw [List.length_take, hsl]; omega
  have l2 : ((idsR (srt f)).take ((f.length : Int) * q / 100).toNat).length = ((f.length : Int) * q / 100).toNat := by rw [List.length_take, hsl]; omega
  have hnd : (idsR (srt f)).Nodup := by
    have h1 : (idsR f).Nodup := by rw [hf]; exact List.Nodup.sublist (List.Sublist.map _ List.filter_sublist) (nodup_ids l)
    exact ((srt_perm f).map Rc.id).nodup_iff.2 h1
  refine ⟨rfl, rfl, rfl, ?_, ?_, ?_, ?_, ?_⟩
  · rw [hx, hx, l1, l2]; omega
  · rw [hx, l2]; omega
  · intro i h h'
    simp only [hx] at h h' ⊢
    rw [List.getElem_take, List.getElem_take]
  · intro i h
    simp only [hx] at h ⊢
    rw [List.getElem_take]
    have hi : i < (srt f).length := by rw [srt_len]; rw [List.length_take, hsl] at h; omega
    have e : (idsR (srt f))[i]'(by rw [hsl, ← srt_len]; exact hi) = (srt f)[i].id := by simp [idsR]
    rw [e]
    have hm : (srt f)[i] ∈ f := (srt_perm f).subset (List.getElem_mem hi)
    obtain ⟨e0, he0⟩ : ∃ e0, e0 = (srt f)[i] := ⟨_, rfl⟩
    rw [← he0] at hm ⊢
    rw [hf] at hm
    obtain ⟨hm1, hm2⟩ := List.mem_filter.1 hm
    obtain ⟨j, hj, he⟩ := List.getElem_of_mem hm1
    have hj' : j < l.length := by rw [← renum_len l]; exact hj
    have he' : (renum l)[j]! = e0 := by rw [getElem!_pos (renum l) j hj]; exact he
    have hid : (renum l)[j]!.id = (j : Int) + 1 := by rw [renum_at hj']; rfl
    obtain ⟨k1, k2, k3⟩ := goF_all hm2
    refine ⟨j, by rw [← he']; exact hid, hj', ?_, ?_, ?_⟩
    · rw [he']; exact k1
    · rw [he']; exact k2
    · rw [he']; exact k3
  · intro k i h h' hki
    simp only [hx] at h h' ⊢
    rw [List.getElem_take, List.getElem_take]
    rw [List.length_take] at h h'
    exact (List.pairwise_iff_getElem.1 hnd) k i (by omega) (by omega) hki
end Go.Proofs.Ytcblhfjgdkbinaa.Re
