/- A heap: is, Has, wrong, Score, Size, Top, Push, Remove, Pop. Conditions: the memory. -/
import Derived.Test.YtienomdennbkpaaHh
namespace Go.Proofs.Ytienomdennbkpaa.He
open Go.RowKit Go.Proofs.Ytienomdennbkpaa.Mem Go.Proofs.Ytienomdennbkpaa.Sl Go.Shelf
open Go.Proofs.Ytienomdennbkpaa.FnL (enc_at below_then)
set_option linter.unusedVariables false

/-- A heap that is in order, its scores in bounds. -/
structure HL (w : World) (B N : Nat) (q : HA) (m : HM) : Prop where
  hr : HR w B N q m
  hp : HeapF 0 m.l.length (vf m.s m.l)
  sb : ∀ x, x ∈ m.s → 0 ≤ x ∧ x ≤ 1152921504606846976
section
variable {w w' : World} {B N : Nat} {q : HA} {m : HM}
theorem HL.mod {S : Nat → Prop} (h : HL w B N q m) (hm : Mod S w w') (hS : ∀ i, mine q i → ¬ S i) : HL w' B N q m := ⟨h.hr.mod hm hS, h.hp, h.sb⟩
theorem HL.below (h : HL w B N q m) (hb : Below w.heap.size w w') : HL w' B N q m := ⟨h.hr.below hb, h.hp, h.sb⟩
theorem HL.low {B' : Nat} (h : HL w B N q m) (hb : B' ≤ B) : HL w B' N q m := ⟨h.hr.low hb, h.hp, h.sb⟩
theorem HL.drewN (h : HL w B N q m) (n : Nat) : HL (w.drewN n) B N q m := ⟨h.hr.drewN n, h.hp, h.sb⟩
end
def isB (N : Nat) (v : Int) : Bool := decide (1 ≤ v ∧ v ≤ N)
theorem is_nil (v : Int) (w : World) : Calls Try.prog 37 #[.pointer none, .int .i64 v] w fun e w' => e = .returned (.bool false) ∧ w = w' := by
  go_enter Try.func37, Try.ntmps37
  go_wp2
  go_ret
  exact ⟨rfl, rfl⟩
theorem is_any {w : World} {B N : Nat} {q : HA} {m : HM} (h : HR w B N q m) (v : Int) : Calls Try.prog 37 #[.pointer (some ⟨q.g, 0, none⟩), .int .i64 v] w fun e w' => e = .returned (.bool (isB N v)) ∧ w = w' := by
  have c2 : w.cell? ⟨q.g, 2, none⟩ = some (.slice (some ⟨q.s, 0, none⟩) (N + 1) q.sc) := h.blk.cell 2
  have hN := h.hN
  clear h
  by_cases h1 : 1 ≤ v
  · by_cases h2 : v ≤ N
    · have HE := Lib.hid (show isB N v = true from decide_eq_true ⟨h1, h2⟩)
      have h3 : v < (N : Int) + 1 := by omega
      go_enter Try.func37, Try.ntmps37
      go_wp2
      go_ret
      exact ⟨by rw [HE.out]; rfl, rfl⟩
    · have HE := Lib.hid (show isB N v = false from decide_eq_false (fun h => h2 h.2))
      have h3 : ¬ v < (N : Int) + 1 := by omega
      have h4 : (N : Int) + 1 ≤ v := by omega
      go_enter Try.func37, Try.ntmps37
      go_wp2
      go_ret
      exact ⟨by rw [HE.out]; rfl, rfl⟩
  · have HE := Lib.hid (show isB N v = false from decide_eq_false (fun h => h1 h.1))
    go_enter Try.func37, Try.ntmps37
    go_wp2
    go_ret
    exact ⟨by rw [HE.out]; rfl, rfl⟩
theorem has_nil (v : Int) (w : World) : Calls Try.prog 18 #[.pointer none, .int .i64 v] w fun e w' => e = .returned (.bool false) ∧ w = w' := by
  have HI := Lib.hid (is_nil v w)
  go_enter Try.func18, Try.ntmps18
  go_wp2_with fail
  refine HI.out.mono ?_
  rintro e w1 ⟨rfl, rfl⟩
  go_wp2
  go_ret
  exact ⟨rfl, rfl⟩
theorem Pl.has {N : Nat} {l pl : List Int} (h : Pl N l pl) {v : Nat} (hv : 1 ≤ v) (hN : v ≤ N) : (0 ≤ pl.getD v 0) ↔ (v : Int) ∈ l := by
  constructor
  · intro h0
    by_cases hm : (v : Int) ∈ l
    · exact hm
    · have := h.no v hN hm
      omega
  · intro hm
    obtain ⟨i, hi, he⟩ := List.getElem_of_mem hm
    have h1 := h.at_ i hi
    rw [show l.getD i 0 = (v : Int) by rw [List.getD_eq_getElem?_getD, List.getElem?_eq_getElem hi]; exact he, Int.toNat_natCast] at h1
    omega
theorem Pl.place {N : Nat} {l pl : List Int} (h : Pl N l pl) {v : Nat} (hm : (v : Int) ∈ l) : ∃ i : Nat, i < l.length ∧ pl.getD v 0 = i ∧ l.getD i 0 = v := by
  obtain ⟨i, hi, he⟩ := List.getElem_of_mem hm
  have h0 : l.getD i 0 = (v : Int) := by rw [List.getD_eq_getElem?_getD, List.getElem?_eq_getElem hi]; exact he
  have h1 := h.at_ i hi
  rw [h0, Int.toNat_natCast] at h1
  exact ⟨i, hi, h1, h0⟩
theorem has_any {w : World} {B N : Nat} {q : HA} {m : HM} (h : HR w B N q m) (v : Int) : Calls Try.prog 18 #[.pointer (some ⟨q.g, 0, none⟩), .int .i64 v] w fun e w' => e = .returned (.bool (decide (v ∈ m.l))) ∧ w = w' := by
  have HI := Lib.hid (is_any h v)
  by_cases h1 : 1 ≤ v ∧ v ≤ N
  · obtain ⟨u, rfl⟩ : ∃ u : Nat, v = u := ⟨v.toNat, by omega⟩
    rw [show isB N u = true from decide_eq_true h1] at HI
    have c1 : w.cell? ⟨q.g, 1, none⟩ = some (.slice (some ⟨q.p, 0, none⟩) (N + 1) q.pc) := h.blk.cell 1
    have px := h.pl_ (v := u) (by omega)
    have hN := h.hN
    have e1 : (u : Int) < (N : Int) + 1 := by omega
    have e2 : u < N + 1 := by omega
    have HH := Lib.hid (h.ord.has (v := u) (by omega) (by omega))
    generalize m.pl.getD u 0 = x at *
    by_cases hx : 0 ≤ x
    · have HE := Lib.hid (show decide ((u : Int) ∈ m.l) = true from decide_eq_true (HH.out.1 hx))
      clear h h1
      go_enter Try.func18, Try.ntmps18
      go_wp2_with fail
      refine HI.out.mono ?_
      rintro e w1 ⟨rfl, rfl⟩
      go_wp2
      go_ret
      exact ⟨by rw [HE.out]; rfl, rfl⟩
    · have HE := Lib.hid (show decide ((u : Int) ∈ m.l) = decide (0 ≤ x) from decide_eq_decide.2 HH.out.symm)
      clear h h1
      go_enter Try.func18, Try.ntmps18
      go_wp2_with fail
      refine HI.out.mono ?_
      rintro e w1 ⟨rfl, rfl⟩
      go_wp2
      go_ret
      exact ⟨by rw [HE.out]; rfl, rfl⟩
  · rw [show isB N v = false from decide_eq_false h1] at HI
    have HE := Lib.hid (show decide (v ∈ m.l) = false from decide_eq_false (fun hm => h1 (h.ord.rg v hm)))
    clear h h1
    go_enter Try.func18, Try.ntmps18
    go_wp2_with fail
    refine HI.out.mono ?_
    rintro e w1 ⟨rfl, rfl⟩
    go_wp2
    go_ret
    exact ⟨by rw [HE.out]; rfl, rfl⟩
theorem wrong_nil (v : Int) (w : World) : Calls Try.prog 29 #[.pointer none, .int .i64 v] w fun e w' => e = .returned (.int .i64 1) ∧ w = w' := by
  go_enter Try.func29, Try.ntmps29
  go_wp2
  go_ret
  exact ⟨rfl, rfl⟩
theorem wrong_any {w : World} {B N : Nat} {q : HA} {m : HM} (h : HR w B N q m) (v : Int) : Calls Try.prog 29 #[.pointer (some ⟨q.g, 0, none⟩), .int .i64 v] w fun e w' => e = .returned (.int .i64 (if isB N v then 0 else 2)) ∧ w = w' := by
  have HI := Lib.hid (is_any h v)
  clear h
  generalize isB N v = b at *
  go_enter Try.func29, Try.ntmps29
  go_wp2_with fail
  refine HI.out.mono ?_
  rintro e w1 ⟨rfl, rfl⟩
  rcases b with _ | _
  · go_wp2
    go_ret
    exact ⟨rfl, rfl⟩
  · go_wp2
    go_ret
    exact ⟨rfl, rfl⟩
def scI (N : Nat) (s : List Int) (v : Int) : Int := if isB N v then s.getD v.toNat 0 else 0
theorem score_nil (v : Int) (w : World) : Calls Try.prog 16 #[.pointer none, .int .i64 v] w fun e w' => e = .returned (.int .i64 0) ∧ w = w' := by
  have HI := Lib.hid (is_nil v w)
  go_enter Try.func16, Try.ntmps16
  go_wp2_with fail
  refine HI.out.mono ?_
  rintro e w1 ⟨rfl, rfl⟩
  go_wp2
  go_ret
  exact ⟨rfl, rfl⟩
theorem score_any {w : World} {B N : Nat} {q : HA} {m : HM} (h : HR w B N q m) (v : Int) : Calls Try.prog 16 #[.pointer (some ⟨q.g, 0, none⟩), .int .i64 v] w fun e w' => e = .returned (.int .i64 (scI N m.s v)) ∧ w = w' := by
  have HI := Lib.hid (is_any h v)
  by_cases h1 : 1 ≤ v ∧ v ≤ N
  · obtain ⟨u, rfl⟩ : ∃ u : Nat, v = u := ⟨v.toNat, by omega⟩
    have hb : isB N u = true := decide_eq_true h1
    have HE := Lib.hid (show scI N m.s u = m.s.getD u 0 by unfold scI; rw [if_pos hb, Int.toNat_natCast])
    rw [hb] at HI
    have c2 : w.cell? ⟨q.g, 2, none⟩ = some (.slice (some ⟨q.s, 0, none⟩) (N + 1) q.sc) := h.blk.cell 2
    have px := h.sc_ (v := u) (by omega)
    have hN := h.hN
    have e1 : (u : Int) < (N : Int) + 1 := by omega
    have e2 : u < N + 1 := by omega
    clear h h1 hb
    generalize m.s.getD u 0 = x at *
    go_enter Try.func16, Try.ntmps16
    go_wp2_with fail
    refine HI.out.mono ?_
    rintro e w1 ⟨rfl, rfl⟩
    go_wp2
    go_ret
    exact ⟨by rw [HE.out]; rfl, rfl⟩
  · have hb : isB N v = false := decide_eq_false h1
    have HE := Lib.hid (show scI N m.s v = 0 by unfold scI; rw [hb]; rfl)
    rw [hb] at HI
    clear h h1 hb
    go_enter Try.func16, Try.ntmps16
    go_wp2_with fail
    refine HI.out.mono ?_
    rintro e w1 ⟨rfl, rfl⟩
    go_wp2
    go_ret
    exact ⟨by rw [HE.out]; rfl, rfl⟩
theorem size_nil (w : World) : Calls Try.prog 19 #[.pointer none] w fun e w' => e = .returned (.int .i64 0) ∧ w = w' := by
  go_enter Try.func19, Try.ntmps19
  go_wp2
  go_ret
  exact ⟨rfl, rfl⟩
theorem size_any {w : World} {B N : Nat} {q : HA} {m : HM} (h : HR w B N q m) : Calls Try.prog 19 #[.pointer (some ⟨q.g, 0, none⟩)] w fun e w' => e = .returned (.int .i64 (m.l.length : Int)) ∧ w = w' := by
  have c0 : w.cell? ⟨q.g, 0, none⟩ = some (.slice q.iA m.l.length q.ic) := h.blk.cell 0
  clear h
  go_enter Try.func19, Try.ntmps19
  go_wp2
  go_ret
  exact ⟨rfl, rfl⟩
theorem top_nil (w : World) : Calls Try.prog 27 #[.pointer none] w fun e w' => e = .returned (.tuple #[.int .i64 0, .bool false]) ∧ w = w' := by
  have HI := Lib.hid (size_nil w)
  go_enter Try.func27, Try.ntmps27
  go_wp2_with fail
  refine HI.out.mono ?_
  rintro e w1 ⟨rfl, rfl⟩
  go_wp2
  go_ret2
  exact ⟨rfl, rfl⟩
theorem top_any {w : World} {B N : Nat} {q : HA} {m : HM} (h : HR w B N q m) : Calls Try.prog 27 #[.pointer (some ⟨q.g, 0, none⟩)] w fun e w' => e = .returned (.tuple #[.int .i64 (m.l.getD 0 0), .bool (decide (0 < m.l.length))]) ∧ w = w' := by
  have HI := Lib.hid (size_any h)
  by_cases hp : 0 < m.l.length
  · have HE := Lib.hid (show decide (0 < m.l.length) = true from decide_eq_true hp)
    have c0 : w.cell? ⟨q.g, 0, none⟩ = some (.slice q.iA m.l.length q.ic) := h.blk.cell 0
    obtain ⟨a, eA, ca, _⟩ := h.at_ hp
    rw [eA] at c0
    have hl := h.lenN
    have hN := h.hN
    have hne : ¬ (m.l.length : Int) = 0 := by omega
    clear h
    generalize m.l.getD 0 0 = x at *
    generalize m.l.length = L at *
    go_enter Try.func27, Try.ntmps27
    go_wp2_with fail
    refine HI.out.mono ?_
    rintro e w1 ⟨rfl, rfl⟩
    go_wp2
    go_ret2
    exact ⟨by rw [HE.out]; rfl, rfl⟩
  · have h0 : m.l = [] := List.eq_nil_of_length_eq_zero (by omega)
    rw [h0] at HI ⊢
    clear h hp h0
    have HI := Lib.hid (show Calls Try.prog 19 #[.pointer (some ⟨q.g, 0, none⟩)] w fun e w' => e = .returned (.int .i64 0) ∧ w = w' from HI.out)
    go_enter Try.func27, Try.ntmps27
    go_wp2_with fail
    refine HI.out.mono ?_
    rintro e w1 ⟨rfl, rfl⟩
    go_wp2
    go_ret2
    exact ⟨rfl, rfl⟩
end Go.Proofs.Ytienomdennbkpaa.He
