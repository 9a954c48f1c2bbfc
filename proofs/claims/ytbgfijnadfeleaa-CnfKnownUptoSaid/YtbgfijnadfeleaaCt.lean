/- slices.Compact of a sorted clause of one's own; cnf.Normal: what it answers. Conditions: the memory, at most a million literals. -/
import Derived.Test.YtbgfijnadfeleaaCs
namespace Go.Proofs.Ytbgfijnadfeleaa.Cs
open Go.RowKit Go.Proofs.Ytbgfijnadfeleaa.Mem Go.Proofs.Ytbgfijnadfeleaa.Sl Go.Proofs.Ytbgfijnadfeleaa.Cl Go.Proofs.Ytbgfijnadfeleaa.App Go.Proofs.Ytbgfijnadfeleaa.Cm Go.Shelf
open Go.Sort (putRow Holds grow sorted_unique_holds pdq_sorts pdq)
open Go.Proofs.Ytbgfijnadfeleaa.Cp (ltL normL bothL swo total sort_norm InR SS)
open Go.Proofs.Ytbgfijnadfeleaa.Co (cf order_any)
open Go.Proofs.Ytbgfijnadfeleaa.FnL (Pred enc_at below_then)
set_option linter.unusedVariables false

theorem compact_any {base : Nat} {A : Option Addr} {n c : Nat} {l : List Int} {w : World} (hl : InR l) (hO : Own w base 27 A n c (LI (srt l))) (hn : n ≤ 1000000) :
    Calls Try.prog 37 #[.slice A n c] w fun e w' => e = .returned (.slice A (normL l).length c) ∧ Own w' base 27 A (normL l).length c (LI (normL l)) ∧ Mem.Mod (fun i => A = some ⟨i, 0, none⟩) w w' := by
  have hsn : Lib.compactUpTo (srt l).toArray (srt l).length = normL l := sort_norm l hl
  rcases A with _ | ad
  · have hn0 : n = 0 ∧ c = 0 ∧ srt l = [] := by
      obtain ⟨h1, ⟨_, h2, h3⟩ | ⟨g, h2, _⟩⟩ := hO
      · have h4 : srt l = [] := by simpa [LI] using h3
        rw [h3] at h1
        exact ⟨h1, h2, h4⟩
      · cases h2
    obtain ⟨h1, h2, h3⟩ := hn0
    have hnl : normL l = [] := by rw [← hsn, h3]; rfl
    rw [hnl]
    subst h1 h2
    exact (compact_nil w).mono fun e w' ⟨he, hw⟩ => ⟨he, by rw [hw]; exact Own.nil _ _ _, by rw [hw]; exact Mem.Mod.refl _ _⟩
  · obtain ⟨g, hg⟩ : ∃ g, ad = ⟨g, 0, none⟩ := by
      obtain ⟨_, ⟨h, _⟩ | ⟨g, h, _⟩⟩ := hO
      · cases h
      · cases h; exact ⟨g, rfl⟩
    subst hg
    obtain ⟨hH, hblk, hbg, hnc, hln⟩ := Cm.Own.holds hO
    have hsz : (srt l).toArray.size = n := by simpa using hln
    have h0 := AnyE.slices_Compact Try.compactL (Value.int .i32) (fun _ => rfl) (EqlAt.intD _ _ .i32) (NeqAt.intD _ _ .i32) 0 (by exact fun w => Try.zeroValue27 w) g 0 c (srt l).toArray w hH (by omega) (by omega)
    rw [hsz] at h0
    have hk : (normL l).length ≤ n := by
      have := Cp.norm_len l
      rw [srt_len] at hln
      omega
    refine h0.mono ?_
    rintro e w' ⟨he, q, hw⟩
    rw [show n = (srt l).length from hln.symm, hsn] at he hw
    rw [hln] at hw
    refine ⟨he, ?_, ?_⟩
    · have h1 := Cm.Own.put (q := q) hO (ys := normL l ++ List.replicate (n - (normL l).length) 0) (by simp; omega) hk
      rw [List.take_append_of_le_length (Nat.le_refl _), List.take_length] at h1
      rw [hw]
      exact h1
    · rw [hw]
      have := Cm.put_mod (w := w) (q := q) (g := g) (d := (normL l ++ List.replicate (n - (normL l).length) 0).toArray) #[]
      rw [Go.Sort.grow_empty] at this
      exact this.mono fun i _ h => by rw [h]
/-- Both signs of one variable stand beside one another in a clause in order. -/
def adjB (l : List Int) (k : Nat) : Bool := (List.range k).any fun i => decide (0 < i) && (decide (0 < l.getD i 0) && decide (l.getD i 0 = -(l.getD (i - 1) 0)))
theorem adjB_succ (l : List Int) (k : Nat) : adjB l (k + 1) = (adjB l k || (decide (0 < k) && (decide (0 < l.getD k 0) && decide (l.getD k 0 = -(l.getD (k - 1) 0))))) := by
  unfold adjB
  rw [List.range_succ, List.any_append]
  simp
theorem ltL_of {x y : Int} (h : ltL x y = true) : varI x < varI y ∨ (varI x = varI y ∧ x < y) := of_decide_eq_true h
theorem varI_cases (z : Int) : (z < 0 ∧ varI z = -z) ∨ (0 ≤ z ∧ varI z = z) := by
  unfold varI; split
  · exact .inl ⟨by assumption, rfl⟩
  · exact .inr ⟨by omega, rfl⟩
theorem adj_both (l : List Int) : adjB (normL l) (normL l).length = bothL l := by
  have hs := Cp.ss_norm l
  have hm := Cp.mem_norm l
  generalize normL l = d at *
  rw [Bool.eq_iff_iff]
  unfold adjB bothL
  simp only [List.any_eq_true, List.mem_range, Bool.and_eq_true, decide_eq_true_eq, List.contains_iff_mem]
  constructor
  · rintro ⟨i, hi, h0, h1, h2⟩
    have hi1 : i - 1 < d.length := by omega
    have e1 : d.getD i 0 = d[i] := by simp [List.getD_eq_getElem?_getD, hi]
    have e2 : d.getD (i - 1) 0 = d[i - 1] := by simp [List.getD_eq_getElem?_getD, hi1]
    rw [e1, e2] at h2
    rw [e1] at h1
    exact ⟨d[i], (hm _).1 (List.getElem_mem hi), h1, (hm _).1 (by
      have := List.getElem_mem hi1
      rw [show -d[i] = d[i - 1] by omega]; exact this)⟩
  · rintro ⟨x, hx, h0, h1⟩
    obtain ⟨i, hi, rfl⟩ := List.mem_iff_getElem.1 ((hm _).2 hx)
    obtain ⟨j, hj, hj2⟩ := List.mem_iff_getElem.1 ((hm _).2 h1)
    have hP := List.pairwise_iff_getElem.1 hs
    have hji : j < i := by
      rcases Nat.lt_trichotomy j i with h | h | h
      · exact h
      · subst h; omega
      · have := hP i j hi hj h
        rw [hj2] at this
        have h5 := ltL_of this
        have v1 := varI_cases d[i]
        have v2 := varI_cases (-d[i])
        omega
    have hadj : j = i - 1 := by
      rcases Nat.lt_or_ge j (i - 1) with h | h
      · exfalso
        have h3 := hP j (i - 1) hj (by omega) h
        have h4 := hP (i - 1) i (by omega) hi (by omega)
        rw [hj2] at h3
        have h5 := ltL_of h3
        have h6 := ltL_of h4
        have v1 := varI_cases d[i]
        have v2 := varI_cases (-d[i])
        have v3 := varI_cases d[i - 1]
        omega
      · omega
    subst hadj
    have e1 : d.getD i 0 = d[i] := by simp [List.getD_eq_getElem?_getD, hi]
    have e2 : d.getD (i - 1) 0 = d[i - 1] := by simp [List.getD_eq_getElem?_getD, hj]
    exact ⟨i, hi, by omega, by rw [e1]; exact h0, by rw [e1, e2, hj2]; omega⟩
end Go.Proofs.Ytbgfijnadfeleaa.Cs
