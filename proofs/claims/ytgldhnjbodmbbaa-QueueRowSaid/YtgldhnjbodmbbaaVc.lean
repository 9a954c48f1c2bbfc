/- For QueueRow: the law's in; the stamps along the row. Conditions: the memory. -/
import Derived.Test.YtgldhnjbodmbbaaQz
namespace Go.Proofs.Ytgldhnjbodmbbaa.Qu
open Go.RowKit Go.Proofs.Ytgldhnjbodmbbaa.Mem Go.Proofs.Ytgldhnjbodmbbaa.Sl Go.Shelf
open Go.Proofs.Ytgldhnjbodmbbaa.FnL (enc_at below_then)
set_option linter.unusedVariables false

theorem in_any {w : World} (A : Option Addr) (n c : Nat) (l : List Int) (hn : n = l.length) (hr : RdV w A (LZ l)) (hmx : n ≤ 4000000) (v : Int) : Calls Try.prog 14 #[.slice A n c, .int .i64 v] w fun e w' => e = .returned (.bool (l.contains v)) ∧ w = w' := by
  have HR := Lib.hid hr
  have HN := Lib.hid hn
  clear hr hn
  go_enter Try.func14, Try.ntmps14
  go_wp2_with fail
  go_loopw [5] (fun i wr => ∃ k : Nat, k ≤ n ∧ i = .int .i64 k ∧ (l.take k).contains v = false ∧ w = wr) (fun i _ => n - (intOf i).toNat)
  case atStart => exact ⟨0, Nat.zero_le _, rfl, rfl, rfl⟩
  case round =>
    obtain ⟨k, hk, rfl, hf, rfl⟩ := hrel
    have HF := Lib.hid hf
    clear hf
    by_cases hlt : k < n
    · have hkl : k < l.length := by rw [← HN.out]; exact hlt
      obtain ⟨bt, ot, eB, _, hct⟩ := RdV.at_ HR.out (enc_at (enc := Value.int .i64) hkl)
      have HY := Lib.hid (show l[k] = v → l.contains v = true from fun h => by rw [← h]; simp)
      have HNO := Lib.hid (show l[k] ≠ v → (l.take (k + 1)).contains v = false from fun h => by
        have h2 := HF.out
        rw [List.take_succ_eq_append_getElem hkl]
        simp only [List.contains_eq_mem, decide_eq_false_iff_not, List.mem_append, List.mem_singleton, not_or] at *
        exact ⟨h2, fun e => h e.symm⟩)
      generalize l[k]'hkl = x at *
      subst eB
      clear hkl
      by_cases p : x = v
      · have HE := Lib.hid (HY.out p)
        subst p
        clear HY HNO
        go_wp2
        go_ret
        exact ⟨by rw [HE.out]; rfl, rfl⟩
      · have HE := Lib.hid (HNO.out p)
        have p' : (x == v) = false := by simpa using p
        clear HY HNO
        go_wp2
        go_roundw
        case rel => exact ⟨k + 1, by omega, by go_num, HE.out, trivial⟩
        case measure => simp [intOf]; omega
    · have HE := Lib.hid (show l.contains v = false by have := HF.out; rwa [List.take_of_length_le (by rw [← HN.out]; omega)] at this)
      go_wp2
      go_ret
      exact ⟨by rw [HE.out]; rfl, rfl⟩
/-- The stamps never fall along the row. -/
def SM (m : QM) : Prop := m.row.Pairwise fun a b => m.st a ≤ m.st b
theorem stK_in {m : QM} {vs : List Nat} {v : Nat} (h : v ∈ vs) : stK m vs vs.length v = (m.N : Int) + (m.moved + 1) := by
  unfold stK; rw [if_pos (by rw [List.take_length]; exact List.contains_iff_mem.2 h)]
theorem stK_out {m : QM} {vs : List Nat} {v : Nat} (h : v ∉ vs) : stK m vs vs.length v = m.st v := by
  unfold stK; rw [if_neg (by rw [List.take_length]; exact fun e => h (List.contains_iff_mem.1 e))]
theorem SM.mv {m : QM} (hw : QW m) (h : SM m) (vs : List Nat) : SM (mvM m vs) := by
  show (mvRow m.row vs).Pairwise fun a b => stK m vs vs.length a ≤ stK m vs vs.length b
  unfold mvRow
  have hout : ∀ v, v ∈ m.row.filter (fun v => !vs.contains v) → v ∉ vs ∧ v ∈ m.row := fun v hv => by
    have := List.mem_filter.1 hv
    exact ⟨fun e => by simp [e] at this, this.1⟩
  refine List.pairwise_append.2 ⟨?_, ?_, fun a ha b hb => ?_⟩
  · refine ((h.sublist List.filter_sublist).imp_of_mem (S := fun a b => stK m vs vs.length a ≤ stK m vs vs.length b)) fun ha hb hab => ?_
    rw [stK_out (hout _ ha).1, stK_out (hout _ hb).1]; exact hab
  · refine List.pairwise_iff_getElem.2 fun i j hi hj _ => ?_
    rw [stK_in (List.getElem_mem hi), stK_in (List.getElem_mem hj)]
    exact Int.le_refl _
  · rw [stK_out (hout _ ha).1, stK_in hb]
    have h1 := (hw.mem a).1 (hout _ ha).2
    have := (hw.st a h1.2).2
    omega
theorem SM.bump {m : QM} (hw : QW m) (h : SM m) (l : List Int) : SM (bumpM m l) := by
  unfold bumpM
  split
  · exact h
  · split
    · exact h
    · exact h.mv hw _
theorem SM.new (N : Nat) : SM (newQ N) := by
  refine List.pairwise_iff_getElem.2 fun i j hi hj hij => ?_
  have hl : (newQ N).row.length = N := by simp [newQ]
  have e : ∀ k (hk : k < (newQ N).row.length), (newQ N).row[k] = k + 1 := fun k hk => by simp [newQ]
  rw [e, e]
  show (if i + 1 ≤ N then ((i + 1 : Nat) : Int) else 0) ≤ if j + 1 ≤ N then ((j + 1 : Nat) : Int) else 0
  rw [if_pos (by omega), if_pos (by omega)]
  omega
end Go.Proofs.Ytgldhnjbodmbbaa.Qu
