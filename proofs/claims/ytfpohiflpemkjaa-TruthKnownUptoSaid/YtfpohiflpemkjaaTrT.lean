/- truth.take and the document's Taken. -/
import Derived.Test.YtfpohiflpemkjaaTrF
import Derived.Test.YtfpohiflpemkjaaApp
import Derived.Deep.AppendLies
import Derived.Deep.CutRange
namespace Go.Proofs.Ytfpohiflpemkjaa.Tr
open Go.RowKit Go.Proofs.Ytfpohiflpemkjaa.Mem Go.Proofs.Ytfpohiflpemkjaa.Sl Go.Proofs.Ytfpohiflpemkjaa.Cl Go.Proofs.Ytfpohiflpemkjaa.Mo Go.Shelf
open Go.Proofs.Ytfpohiflpemkjaa.FnL (Pred enc_at below_then)
set_option linter.unusedVariables false

def takenE (N : Int) (cs : List CV) : Int := if rightE N cs = 0 ∧ 16 < N then 3 else rightE N cs
theorem rTaken_any {B : Nat} {w : World} (hB : B ≤ w.heap.size) (N : Int) (ca : Option Addr) (cn cc : Nat) (cs : List CV) (hcs : ClsOk B w ca cn cs) :
    Calls Try.prog 47 #[.agg #[.int .i64 N, .slice ca cn cc]] w fun e w' => e = .returned (.int .i64 (takenE N cs)) ∧ Below w.heap.size w w' := by
  have HS := Lib.hid hB
  have HCS := Lib.hid hcs
  have HT := Lib.hid (show takenE N cs = if rightE N cs = 0 ∧ 16 < N then 3 else rightE N cs from rfl)
  clear hB hcs
  go_enter Try.func47, Try.ntmps47
  go_upto_region 1 with (fail)
  obtain ⟨W0, hW0⟩ : ∃ W0, W0 = w.alloc (.cells #[.int .i64 N, .slice ca cn cc] 34) := ⟨_, rfl⟩
  rw [← hW0]
  have HB0 := Lib.hid (show Below w.heap.size w W0 from hW0 ▸ ((Below.refl _ w).alloc (Nat.le_refl _) _))
  have K0 := Lib.hid (show Blk W0 w.heap.size 34 #[.int .i64 N, .slice ca cn cc] from hW0 ▸ Blk.new w _ _)
  clear hW0
  have q1 : W0.cell? ⟨w.heap.size, 0, none⟩ = some (.int .i64 N) := K0.out.cell 0
  have q2 : W0.cell? ⟨w.heap.size, 1, none⟩ = some (.slice ca cn cc) := K0.out.cell 1
  have HC := Lib.hid (rRight_any (Nat.le_trans HS.out HB0.out.size) N ca cn cc cs (HCS.out.below (HB0.out.mono HS.out)))
  go_wp2_with fail
  refine HC.out.mono ?_
  rintro e w1 ⟨rfl, hb1⟩
  have q3 : w1.cell? ⟨w.heap.size, 0, none⟩ = some (.int .i64 N) := (K0.out.below hb1).cell 0
  have HB1 := Lib.hid (below_then HB0.out hb1 HB0.out.size)
  clear hb1 q1 q2 HC
  generalize rightE N cs = r at *
  by_cases h0 : r = 0
  · subst h0
    by_cases h16 : 16 < N
    · have HE := Lib.hid (HT.out.trans (if_pos ⟨rfl, h16⟩))
      go_wp2
      go_ret
      exact ⟨by rw [HE.out]; rfl, HB1.out⟩
    · have HE := Lib.hid (HT.out.trans (if_neg (fun h => h16 h.2)))
      go_wp2
      go_ret
      exact ⟨by rw [HE.out]; rfl, HB1.out⟩
  · have HE := Lib.hid (HT.out.trans (if_neg (fun h => h0 h.1)))
    have h1 : (r == 0) = false := by simpa using h0
    go_wp2
    go_ret
    exact ⟨by rw [HE.out]; rfl, HB1.out⟩
def flatM (ms : List (Nat × Nat)) : List Value := ms.flatMap (fun m => [.int .u32 m.1, .int .u32 m.2])
theorem flatM_snoc (ms : List (Nat × Nat)) (m : Nat × Nat) : flatM (ms ++ [m]) = flatM ms ++ [.int .u32 m.1, .int .u32 m.2] := by unfold flatM; rw [List.flatMap_append]; rfl
theorem flatM_length (st : List (Nat × Nat)) : (flatM st).length = st.length * 2 := by
  induction st with
  | nil => rfl
  | cons x st ih => simp only [flatM, List.flatMap_cons, List.length_append, List.length_cons, List.length_nil] at ih ⊢; omega
theorem flatM_at : ∀ (st : List (Nat × Nat)) (i : Nat) (x : Nat × Nat), st[i]? = some x → (flatM st)[i * 2]? = some (.int .u32 x.1) ∧ (flatM st)[i * 2 + 1]? = some (.int .u32 x.2) := by
  intro st
  induction st with
  | nil => intro i x h; simp at h
  | cons y st ih =>
    intro i x h
    cases i with
    | zero => simp at h; subst h; simp [flatM]
    | succ i =>
      have := ih i x (by simpa using h)
      rw [show (i + 1) * 2 = i * 2 + 1 + 1 by omega]
      simpa [flatM] using this
theorem ms_own {w : World} {base n : Nat} {A : Option Addr} {c : Nat} {ms : List (Nat × Nat)} {t : TypeId} (h : w.ownsRow base t 2 (.slice A n c) n (flatM ms)) (hm : n ≤ 2000000) (ha : ∀ x, x ∈ ms → Sm x) : MsOk w.heap.size w A n ms := by
  obtain ⟨h1, h2⟩ := h
  have hn : n = ms.length := by rw [flatM_length] at h1; omega
  refine ⟨hn, hm, fun hp => ?_, ha⟩
  rcases h2 with ⟨_, h⟩ | ⟨g, cap, cur, e, h3, h4, h5, h6, h7, h8⟩
  · omega
  · cases e
    refine ⟨g, 0, rfl, (Array.getElem?_eq_some_iff.1 h4).1, fun i x hi => ?_⟩
    have hlt : i < ms.length := (List.getElem?_eq_some_iff.1 hi).1
    obtain ⟨f1, f2⟩ := flatM_at ms i x hi
    rw [← h8] at f1 f2
    rw [List.getElem?_take] at f1 f2
    rw [if_pos (by omega)] at f1 f2
    rw [Nat.zero_add]
    constructor
    · rw [cell_of_row w g (i * 2) cur t (0, 0) h4]; simpa using f1
    · rw [cell_of_row w g (i * 2 + 1) cur t (0, 0) h4]; simpa using f2
/-- What take hands back. -/
def TakeR (N : Int) (cs : List CV) (e : Ending) (w' : World) : Prop :=
  (takenE N cs ≠ 0 ∧ e = .returned (.tuple #[.agg #[.int .i64 0, .slice none 0 0], .int .i64 (takenE N cs)])) ∨
  (takenE N cs = 0 ∧ ∃ (V : Nat) (A : Option Addr) (n c : Nat), N = V ∧ V ≤ 16 ∧ e = .returned (.tuple #[frV V A n c, .int .i64 0]) ∧ MsOk w'.heap.size w' A n (cs.map fun x => maskOf x.l))
theorem scan_ok (N : Int) : ∀ (l : List Int) (c : Nat), scan N l c = 0 → ∀ x, x ∈ l → badB N x = false
  | [], _, _, x, h => by cases h
  | y :: l, c, hs, x, h => by
    unfold scan at hs
    split at hs
    · cases hs
    · split at hs
      · cases hs
      · rename_i h1 h2
        rcases List.mem_cons.1 h with rfl | h
        · simpa using h2
        · exact scan_ok N l _ hs x h
theorem bad_lit {N x : Int} (h : badB N x = false) : 1 ≤ varI x ∧ varI x ≤ N := by
  unfold badB at h
  simp only [Bool.or_eq_false_iff, beq_eq_false_iff_ne, ne_eq, decide_eq_false_iff_not] at h
  obtain ⟨h1, h2⟩ := h
  unfold varI at *
  split <;> omega
theorem taken_ok {N : Int} {cs : List CV} (h : takenE N cs = 0) : rightE N cs = 0 ∧ 0 ≤ N ∧ N ≤ 16 ∧ cs.length ≤ 1048576 ∧ ∀ x, x ∈ cs → ∀ y, y ∈ x.l → 1 ≤ varI y ∧ varI y ≤ N := by
  unfold takenE at h
  split at h
  · cases h
  · rename_i h1
    have h2 := h
    unfold rightE at h
    split at h
    · cases h
    · split at h
      · cases h
      · refine ⟨h2, by omega, by omega, by omega, fun x hx y hy => bad_lit (scan_ok N _ _ h y ?_)⟩
        exact List.mem_flatMap.2 ⟨x, hx, hy⟩
end Go.Proofs.Ytfpohiflpemkjaa.Tr
