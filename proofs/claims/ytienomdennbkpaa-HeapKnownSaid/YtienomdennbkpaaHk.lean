/- A heap: Push, Remove, Pop. Conditions: the memory. -/
import Derived.Test.YtienomdennbkpaaHj
namespace Go.Proofs.Ytienomdennbkpaa.He
open Go.RowKit Go.Proofs.Ytienomdennbkpaa.Mem Go.Proofs.Ytienomdennbkpaa.Sl Go.Shelf
open Go.Proofs.Ytienomdennbkpaa.FnL (enc_at below_then)
set_option linter.unusedVariables false

/-- A heap behind a call: with these scores, these in it. -/
def Next (w : World) (B N : Nat) (q : HA) (s l : List Int) (w' : World) : Prop :=
  ∃ q' m', HL w' B N q' m' ∧ m'.s = s ∧ m'.l.Perm l ∧ q'.g = q.g ∧ (∀ i, mine q' i → mine q i ∨ w.heap.size ≤ i) ∧ Mod (mine q) w w'
theorem HL.next {w : World} {B N : Nat} {q : HA} {m : HM} (h : HL w B N q m) : Next w B N q m.s m.l w := ⟨q, m, h, rfl, List.Perm.refl _, rfl, fun _ e => .inl e, Mod.refl _ _⟩
theorem Next.perm {w w' : World} {B N : Nat} {q : HA} {s l l' : List Int} (h : Next w B N q s l w') (hp : l.Perm l') : Next w B N q s l' w' := by
  obtain ⟨q', m', h1, h2, h3, h4⟩ := h
  exact ⟨q', m', h1, h2, h3.trans hp, h4⟩
def pushE (N : Nat) (l : List Int) (v : Int) : Int := if isB N v then if v ∈ l then 6 else 0 else 2
def pushL (N : Nat) (l : List Int) (v : Int) : List Int := if isB N v then if v ∈ l then l else l ++ [v] else l
theorem hpush_nil (v : Int) (w : World) : Calls Try.prog 11 #[.pointer none, .int .i64 v] w fun e w' => e = .returned (.int .i64 1) ∧ w = w' := by
  have HI := Lib.hid (wrong_nil v w)
  go_enter Try.func11, Try.ntmps11
  go_wp2_with fail
  refine HI.out.mono ?_
  rintro e w1 ⟨rfl, rfl⟩
  go_wp2
  go_ret
  exact ⟨rfl, rfl⟩
theorem hpush_any {w : World} {B N : Nat} {q : HA} {m : HM} (h : HL w B N q m) (hB : B ≤ w.heap.size) (v : Int) :
    Calls Try.prog 11 #[.pointer (some ⟨q.g, 0, none⟩), .int .i64 v] w fun e w' => e = .returned (.int .i64 (pushE N m.l v)) ∧ Next w B N q m.s (pushL N m.l v) w' := by
  have HI := Lib.hid (wrong_any h.hr v)
  have HH := Lib.hid (has_any h.hr v)
  have HX := Lib.hid h.next
  by_cases h1 : 1 ≤ v ∧ v ≤ N
  · have hb : isB N v = true := decide_eq_true h1
    by_cases hm : v ∈ m.l
    · have HE := Lib.hid (show pushE N m.l v = 6 ∧ pushL N m.l v = m.l by unfold pushE pushL; rw [if_pos hb, if_pos hm, if_pos hb, if_pos hm]; exact ⟨rfl, rfl⟩)
      rw [hb] at HI
      rw [decide_eq_true hm] at HH
      clear h hm hb h1
      go_enter Try.func11, Try.ntmps11
      go_wp2_with fail
      refine HI.out.mono ?_
      rintro e w1 ⟨rfl, rfl⟩
      go_wp2_with fail
      refine HH.out.mono ?_
      rintro e w1 ⟨rfl, rfl⟩
      go_wp2
      go_ret
      rw [HE.out.1, HE.out.2]
      exact ⟨rfl, HX.out⟩
    · have HE := Lib.hid (show pushE N m.l v = 0 ∧ pushL N m.l v = m.l ++ [v] by unfold pushE pushL; rw [if_pos hb, if_neg hm, if_pos hb, if_neg hm]; exact ⟨rfl, rfl⟩)
      rw [hb] at HI
      rw [decide_eq_false hm] at HH
      obtain ⟨u, rfl⟩ : ∃ u : Nat, v = u := ⟨v.toNat, by omega⟩
      have HP := Lib.hid (push_any (l := m.l) (pl := m.pl) (s := m.s) h.hr hB u ⟨by omega, by omega⟩ hm h.hp)
      have HS := Lib.hid h.sb
      clear h hm hb h1 HX
      go_enter Try.func11, Try.ntmps11
      go_wp2_with fail
      refine HI.out.mono ?_
      rintro e w1 ⟨rfl, rfl⟩
      go_wp2_with fail
      refine HH.out.mono ?_
      rintro e w1 ⟨rfl, rfl⟩
      go_wp2_with fail
      refine HP.out.mono ?_
      rintro e w2 ⟨rfl, q', l1, ⟨⟨pl1, k1⟩, k2, k3⟩, k4, k5, k6⟩
      have HN := Lib.hid (show Next w B N q m.s (m.l ++ [(u : Int)]) w2 from ⟨q', ⟨l1, pl1, m.s⟩, ⟨k1, k5, HS.out⟩, rfl, k4, k2, k3, k6⟩)
      clear k1 k2 k3 k4 k5 k6
      go_wp2
      go_ret
      rw [HE.out.1, HE.out.2]
      exact ⟨rfl, HN.out⟩
  · have hb : isB N v = false := decide_eq_false h1
    have HE := Lib.hid (show pushE N m.l v = 2 ∧ pushL N m.l v = m.l by unfold pushE pushL; rw [hb]; exact ⟨rfl, rfl⟩)
    rw [hb] at HI
    clear h hb h1
    go_enter Try.func11, Try.ntmps11
    go_wp2_with fail
    refine HI.out.mono ?_
    rintro e w1 ⟨rfl, rfl⟩
    go_wp2
    go_ret
    rw [HE.out.1, HE.out.2]
    exact ⟨rfl, HX.out⟩
def remE (N : Nat) (l : List Int) (v : Int) : Int := if isB N v then if v ∈ l then 0 else 5 else 2
theorem hrem_nil (v : Int) (w : World) : Calls Try.prog 17 #[.pointer none, .int .i64 v] w fun e w' => e = .returned (.int .i64 1) ∧ w = w' := by
  have HI := Lib.hid (wrong_nil v w)
  go_enter Try.func17, Try.ntmps17
  go_wp2_with fail
  refine HI.out.mono ?_
  rintro e w1 ⟨rfl, rfl⟩
  go_wp2
  go_ret
  exact ⟨rfl, rfl⟩
theorem erase_of_perm {l1 l : List Int} {v : Int} (h : (l1 ++ [v]).Perm l) : l1.Perm (l.erase v) := by
  have h1 : (v :: l1).Perm l := (List.perm_append_comm (l₁ := [v]) (l₂ := l1)).trans h
  have h2 := h1.erase v
  rw [List.erase_cons_head] at h2
  exact h2
set_option maxRecDepth 100000 in
theorem hrem_any {w : World} {B N : Nat} {q : HA} {m : HM} (h : HL w B N q m) (v : Int) :
    Calls Try.prog 17 #[.pointer (some ⟨q.g, 0, none⟩), .int .i64 v] w fun e w' => e = .returned (.int .i64 (remE N m.l v)) ∧ Next w B N q m.s (m.l.erase v) w' := by
  have HI := Lib.hid (wrong_any h.hr v)
  have HH := Lib.hid (has_any h.hr v)
  have HX := Lib.hid h.next
  by_cases h1 : 1 ≤ v ∧ v ≤ N
  · have hb : isB N v = true := decide_eq_true h1
    by_cases hm : v ∈ m.l
    · have HE := Lib.hid (show remE N m.l v = 0 by unfold remE; rw [if_pos hb, if_pos hm])
      rw [hb] at HI
      rw [decide_eq_true hm] at HH
      obtain ⟨u, rfl⟩ : ∃ u : Nat, v = u := ⟨v.toNat, by omega⟩
      obtain ⟨i, hi, hpl, hat⟩ := h.hr.ord.place hm
      have c1 : w.cell? ⟨q.g, 1, none⟩ = some (.slice (some ⟨q.p, 0, none⟩) (N + 1) q.pc) := h.hr.blk.cell 1
      have px := h.hr.pl_ (v := u) (by omega)
      rw [hpl] at px
      have hN := h.hr.hN
      have e1 : (u : Int) < (N : Int) + 1 := by omega
      have e2 : u < N + 1 := by omega
      have HP := Lib.hid (fun n => remove_any (l := m.l) (pl := m.pl) (s := m.s) (h.hr.drewN n) i hi h.hp)
      rw [hat] at HP
      have HS := Lib.hid h.sb
      clear h hm hb h1 HX hpl hat hi
      go_enter Try.func17, Try.ntmps17
      go_wp2_with fail
      refine HI.out.mono ?_
      rintro e w1 ⟨rfl, rfl⟩
      go_wp2_with fail
      refine HH.out.mono ?_
      rintro e w1 ⟨rfl, rfl⟩
      go_wp2_with fail
      refine wp_region_still_tail 12 (by kernel_rfl) (by kernel_rfl) ?_
      change wpStill _ _ w.drew _ _ _
      simp only [List.take_succ_cons, List.take_zero, List.drop_succ_cons, List.drop_zero]
      repeat still_step
      refine wpStill_nil ?_
      change wpList _ _ _ _ _ w.drew
      go_wp2_with fail
      refine (HP.out 1).mono ?_
      rintro e w2 ⟨rfl, l1, ⟨pl1, k1⟩, k2, k3, k4⟩
      have HN := Lib.hid (show Next w B N q m.s (m.l.erase (u : Int)) w2 from ⟨q, ⟨l1, pl1, m.s⟩, ⟨k1, k3, HS.out⟩, rfl, erase_of_perm k2, rfl, fun _ e => .inl e, ((Mod.refl _ w).drewN 1).then_ k4⟩)
      clear k1 k2 k3 k4
      go_wp2
      go_ret
      rw [HE.out]
      exact ⟨rfl, HN.out⟩
    · have HE := Lib.hid (show remE N m.l v = 5 ∧ m.l.erase v = m.l from ⟨by unfold remE; rw [if_pos hb, if_neg hm], List.erase_of_not_mem hm⟩)
      rw [hb] at HI
      rw [decide_eq_false hm] at HH
      clear h hm hb h1
      go_enter Try.func17, Try.ntmps17
      go_wp2_with fail
      refine HI.out.mono ?_
      rintro e w1 ⟨rfl, rfl⟩
      go_wp2_with fail
      refine HH.out.mono ?_
      rintro e w1 ⟨rfl, rfl⟩
      go_wp2
      go_ret
      rw [HE.out.1, HE.out.2]
      exact ⟨rfl, HX.out⟩
  · have hb : isB N v = false := decide_eq_false h1
    have HE := Lib.hid (show remE N m.l v = 2 ∧ m.l.erase v = m.l from ⟨by unfold remE; rw [hb]; rfl, List.erase_of_not_mem (fun hm => h1 (h.hr.ord.rg v hm))⟩)
    rw [hb] at HI
    clear h hb h1
    go_enter Try.func17, Try.ntmps17
    go_wp2_with fail
    refine HI.out.mono ?_
    rintro e w1 ⟨rfl, rfl⟩
    go_wp2
    go_ret
    rw [HE.out.1, HE.out.2]
    exact ⟨rfl, HX.out⟩
theorem hpop_nil (w : World) : Calls Try.prog 21 #[.pointer none] w fun e w' => e = .returned (.tuple #[.int .i64 0, .bool false]) ∧ w = w' := by
  have HI := Lib.hid (size_nil w)
  go_enter Try.func21, Try.ntmps21
  go_wp2_with fail
  refine HI.out.mono ?_
  rintro e w1 ⟨rfl, rfl⟩
  go_wp2
  go_ret2
  exact ⟨rfl, rfl⟩
theorem hpop_any {w : World} {B N : Nat} {q : HA} {m : HM} (h : HL w B N q m) :
    Calls Try.prog 21 #[.pointer (some ⟨q.g, 0, none⟩)] w fun e w' => e = .returned (.tuple #[.int .i64 (m.l.getD 0 0), .bool (decide (0 < m.l.length))]) ∧ Next w B N q m.s (m.l.erase (m.l.getD 0 0)) w' := by
  have HI := Lib.hid (size_any h.hr)
  by_cases hp : 0 < m.l.length
  · have HE := Lib.hid (show decide (0 < m.l.length) = true from decide_eq_true hp)
    have HP := Lib.hid (pop_any (l := m.l) (pl := m.pl) (s := m.s) h.hr hp h.hp)
    have HS := Lib.hid h.sb
    have hne : ¬ (m.l.length : Int) = 0 := by omega
    have hta : ∀ (w : World) (x : Int), (Instr.typeAssert (.iface 3 (.int .i64 x)) 20 3 false).run Try.prog w = .ok (.int .i64 x) w := fun w x => by kernel_rfl
    clear h hp
    generalize m.l.getD 0 0 = x at *
    go_enter Try.func21, Try.ntmps21
    go_wp2_with fail
    refine HI.out.mono ?_
    rintro e w1 ⟨rfl, rfl⟩
    go_wp2_with fail
    refine HP.out.mono ?_
    rintro e w2 ⟨rfl, l1, ⟨pl1, k1⟩, k2, k3, k4⟩
    have HN := Lib.hid (show Next w B N q m.s (m.l.erase x) w2 from ⟨q, ⟨l1, pl1, m.s⟩, ⟨k1, k3, HS.out⟩, rfl, erase_of_perm k2, rfl, fun _ e => .inl e, k4⟩)
    clear k1 k2 k3 k4
    go_wp2
    go_ret2
    rw [HE.out]
    exact ⟨rfl, HN.out⟩
  · have h0 : m.l = [] := List.eq_nil_of_length_eq_zero (by omega)
    have HX := Lib.hid h.next
    rw [h0] at HI HX ⊢
    clear h hp h0
    have HI := Lib.hid (show Calls Try.prog 19 #[.pointer (some ⟨q.g, 0, none⟩)] w fun e w' => e = .returned (.int .i64 0) ∧ w = w' from HI.out)
    go_enter Try.func21, Try.ntmps21
    go_wp2_with fail
    refine HI.out.mono ?_
    rintro e w1 ⟨rfl, rfl⟩
    go_wp2
    go_ret2
    exact ⟨rfl, HX.out⟩
end Go.Proofs.Ytienomdennbkpaa.He
