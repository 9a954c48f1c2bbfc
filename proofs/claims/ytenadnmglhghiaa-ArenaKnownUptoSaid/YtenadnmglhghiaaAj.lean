/- An arena: Refs: slices.Sorted of maps.Keys. Conditions: the memory. -/
import Derived.Test.YtenadnmglhghiaaAi
import Derived.Test.YtenadnmglhghiaaSlc
import Derived.Lib.SlKeysI
namespace Go.Proofs.Ytenadnmglhghiaa.Ar
open Go.RowKit Go.Proofs.Ytenadnmglhghiaa.Mem Go.Proofs.Ytenadnmglhghiaa.Sl Go.Shelf Go.Maps Go.Sort
open Go.Proofs.Ytenadnmglhghiaa.FnL (enc_at below_then)
set_option linter.unusedVariables false

def NZ (l : List Nat) : List Int := l.map fun (r : Nat) => (r : Int)
/-- Numbers that stand in order stay so. -/
theorem sorted_is {l : List Nat} (h : l.Pairwise (· < ·)) : (NZ l).mergeSort leI = NZ l := by
  refine List.mergeSort_of_pairwise ?_
  unfold NZ
  rw [List.pairwise_map]
  exact h.imp fun h => by simp [leI]; omega
theorem keys_perm {w : World} {b n : Nat} {ks : List Nat} (h : MapK w b n ks) (hs : ks.Pairwise (· < ·)) (hb : ∀ r, r ∈ ks → inI r) : ∃ D : DataW Unit, w.ownsMap Try.prog 32 (plainElem Try.prog 3) b n D ∧ (NZ ks).Perm (intKeys D) ∧ Maps.size D ≤ n := by
  obtain ⟨D, h1, h2, h3⟩ := h
  have hsz := h1.size_le
  refine ⟨D, h1, ?_, hsz⟩
  have htd := h1.tidy (int_keyed Try.underlying32)
  obtain ⟨es, rfl, hp⟩ := htd
  have hk : ∀ p ∈ es, ∃ x, p.1 = .int .i64 x ∧ inI x := by
    obtain ⟨es0, clock, hb0, F, hs0, hD⟩ := h1
    injection hD with hD
    intro p hp'
    rw [hD] at hp'
    have hp2 := (Go.WideShapes.sorted_perm _).mem_iff.1 hp'
    obtain ⟨v, hv⟩ := Maps.fit_keys F p hp2
    obtain ⟨x, _, e, hwf⟩ := Maps.keyOf_i64 Try.underlying32 hv
    refine ⟨x, e, ?_⟩
    simp only [Lit.wf, Bool.and_eq_true, decide_eq_true_eq] at hwf
    exact hwf
  refine perm_intKeys hp (fun p hp' => by obtain ⟨x, e, _⟩ := hk p hp'; exact ⟨x, e⟩) ?_ fun x => ?_
  · unfold NZ List.Nodup
    rw [List.pairwise_map]
    exact hs.imp fun h => by omega
  · unfold NZ
    rw [List.mem_map]
    by_cases hx : inI x
    · exact (h3 x hx).symm
    · constructor
      · rintro ⟨r, hr, rfl⟩; exact absurd (hb r hr) hx
      · intro hh
        rw [has_eq, List.any_eq_true] at hh
        obtain ⟨p, hp', hs'⟩ := hh
        obtain ⟨y, e, hy⟩ := hk p hp'
        rw [e] at hs'
        have : y = x := by simpa [Lit.sameKey] using hs'
        rw [this] at hy
        exact absurd hy hx
theorem sorts (m : Nat) : AnyZI.SortsIn Try.prog Try.sortedA_ren Fence.wide m :=
  ⟨fun blk off cap ss W hH hblk hsz => callsIn_wide.2 (AnyM.slices_Sort_int Try.sortA blk off cap ss W hH hblk hsz),
   fun p cap W => callsIn_wide.2 (AnyM.slices_Sort_int_none Try.sortA p cap W)⟩
def RefsR (w : World) (ks : List Nat) (e : Ending) (w' : World) : Prop := ∃ A c, e = .returned (.slice A ks.length c) ∧ App.Own w' w.heap.size 32 A ks.length c ((NZ ks).map (Value.int .i64))
set_option maxHeartbeats 1000000 in
theorem refs_any {w : World} {base : Nat} {q : AAd} {lim : Int} {its : List Itm} (h : AR w base q lim its) : Calls Try.prog 18 #[.pointer (some ⟨q.g, 0, none⟩)] w fun e w' => RefsR w (refs its) e w' ∧ Below w.heap.size w w' := by
  have hbd : ∀ r, r ∈ refs its → inI r := fun r hr => by
    obtain ⟨i, hi, e, _⟩ := mem_refs.1 hr
    have := take_le h.ok i
    have := h.l0; have := h.l1
    unfold inI; omega
  have hsrt := refs_sorted h.ok
  obtain ⟨D0, hown, hperm, hsz⟩ := keys_perm h.mp hsrt hbd
  have hn : q.nn ≤ 268435456 := by have := len_le h.ok; have := h.nb; have := h.l0; have := h.l1; omega
  have hmax : Maps.size D0 ≤ maxLen := by unfold maxLen; omega
  have hbytes : Maps.size D0 * 8 ≤ 140737488355328 := by omega
  have c2 : w.cell? ⟨q.g, 2, none⟩ = some (.map (some q.b)) := h.blk.cell 2
  have HFN := Lib.hid (fun (v : Value) (ss : List Int) (W : World) (hp : ss.Perm (intKeys D0)) (hrow : W.ownsRow w.heap.size 32 1 v ss.length ((ss.mergeSort (fun x y => decide (x ≤ y))).map encZ)) => show RefsR w (refs its) (.returned v) W from by
    have e1 : ss.mergeSort leI = NZ (refs its) := by
      rw [mergeSort_of_perm_i (hp.trans hperm.symm), sorted_is hsrt]
    have e2 : ss.length = (refs its).length := by
      rw [hp.length_eq, ← hperm.length_eq]; simp [NZ]
    rw [show ss.mergeSort (fun x y => decide (x ≤ y)) = NZ (refs its) from e1, e2] at hrow
    obtain ⟨A, c, rfl, hO⟩ := App.Own.of hrow
    exact ⟨A, c, rfl, hO⟩)
  have hbl := hown.lt
  clear h hsrt hbd hperm
  refine (callsIn_wide (n := 6)).1 ?_
  have hseq : SeqGives Fence.wide 2 Try.prog 46 #[.pointer (some ⟨w.heap.size, 0, none⟩)] encZ (fun ss => ss.Perm (intKeys D0)) (Maps.size D0) (w.alloc (.cells #[.map (some q.b)] 66)) :=
    AnyZI.keys_gives (ρ := Try.keysA_ren) { Try.keysA with } Fence.wide _ trivial rfl (by omega) w.heap.size q.b q.nn D0 _ (by simp) (by simp) (by
      obtain ⟨es, clock, hb, Ft, hs, hD⟩ := hown
      exact ⟨es, clock, (Below.heap_alloc _ _ q.b hbl).trans hb, Ft, hs, hD⟩)
  have cK : ∀ mb W, CallsIn Fence.wide 5 Try.prog 33 #[.map mb] W fun e w' => e = .returned (.func (.func 46) #[] #[.pointer (some ⟨W.heap.size, 0, none⟩)]) ∧ w' = W.alloc (.cells #[.map mb] 66) := fun mb W => AnyZI.keys_in Try.keysA Fence.wide 5 trivial rfl mb W
  have cS := AnyZI.sorted_in Try.sortedA Fence.wide 5 trivial trivial trivial trivial rfl (by omega) (sorts _) (enters_of Try.func45 (by kernel_rfl) rfl) 46 #[.pointer (some ⟨w.heap.size, 0, none⟩)] trivial (enters_of Try.func46 (by kernel_rfl) rfl) _ _ hmax hbytes _ hseq
  change CallsIn _ _ Try.prog 32 _ _ _ at cS
  have hfK : Fence.wide.fn 33 := trivial
  have hfS : Fence.wide.fn 32 := trivial
  refine callsIn_of_wp Try.func18 rfl trivial ?_ rfl
  simp only [Try.ntmps18, List.size_toArray, List.length_cons, List.length_nil, Nat.reduceAdd, Nat.reduceSub, Array.replicate_succ, Array.replicate_zero, List.push_toArray, List.append_toArray, List.nil_append, List.cons_append]
  gi_wp2_with (first
    | (gi_at_call 33; refine (cK _ _).mono ?_; rintro e w' ⟨rfl, rfl⟩)
    | (gi_at_call 32; refine cS.mono ?_; rintro e w' ⟨v, ss, rfl, hS, hrow, hnil, hb⟩))
  go_ret
  exact ⟨HFN.out _ _ _ hS (ownsRow_base_a hrow (by simp)), ((Below.refl _ w).alloc (Nat.le_refl _) _).trans (hb.mono (by simp))⟩
end Go.Proofs.Ytenadnmglhghiaa.Ar
