/- The document's Tier, before; a row with one put in. Conditions: the memory. -/
import Derived.Test.YtcblhfjgdkbinaaJr
import Derived.BigQuiet
namespace Go.Proofs.Ytcblhfjgdkbinaa.Re
open Go.RowKit Go.Proofs.Ytcblhfjgdkbinaa.Mem Go.Proofs.Ytcblhfjgdkbinaa.Sl Go.Shelf Go.Sort Go.Proofs.Ytcblhfjgdkbinaa.Sr
open Go.Proofs.Ytcblhfjgdkbinaa.FnL (enc_at below_then)
open Go.Proofs.Ytcblhfjgdkbinaa.Lt (Later wp_region_later)
set_option linter.unusedVariables false

set_option maxHeartbeats 1000000 in
theorem rtier_any (x : Rc) (g : Int) (w : World) : Calls Try.prog 21 #[agR x, .int .i64 g] w fun e w' => e = .returned (.int .i64 (tierF x.lbd g)) ∧ Below w.heap.size w w' := by
  have HT := Lib.hid (tierF_cases x.lbd g)
  have HG := Lib.hid (glI_b g)
  have HD := Lib.hid (show glI g = if g < 0 then 0 else if 65535 < g then 65535 else g from rfl)
  have HB := Lib.hid (fun (o : Obj) => (Below.refl w.heap.size w).alloc (Nat.le_refl _) o)
  generalize tierF x.lbd g = T at *
  generalize glI g = G at *
  rcases (show g < 0 ∨ 65535 < g ∨ (0 ≤ g ∧ g ≤ 65535) by omega) with hg | hg | hg
  · obtain rfl : G = 0 := by have := HD.out; rwa [if_pos hg] at this
    rcases HT.out with ⟨rfl, h1⟩ | ⟨rfl, h1, h2⟩ | ⟨rfl, h1, h2⟩
    · go_enter Try.func21, Try.ntmps21
      go_wp2
      go_ret
      exact ⟨rfl, HB.out _⟩
    · have h3 : x.lbd ≤ 4 := by omega
      go_enter Try.func21, Try.ntmps21
      go_wp2
      go_ret
      exact ⟨rfl, HB.out _⟩
    · have h3 : ¬ x.lbd ≤ 4 := by omega
      go_enter Try.func21, Try.ntmps21
      go_wp2
      go_ret
      exact ⟨rfl, HB.out _⟩
  · obtain rfl : G = 65535 := by have := HD.out; rwa [if_neg (by omega), if_pos hg] at this
    have hg0 : 0 < g := by omega
    rcases HT.out with ⟨rfl, h1⟩ | ⟨rfl, h1, h2⟩ | ⟨rfl, h1, h2⟩
    · go_enter Try.func21, Try.ntmps21
      go_wp2
      go_ret
      exact ⟨rfl, HB.out _⟩
    · have h3 : x.lbd ≤ 65539 := by omega
      go_enter Try.func21, Try.ntmps21
      go_wp2
      go_ret
      exact ⟨rfl, HB.out _⟩
    · have h3 : ¬ x.lbd ≤ 65539 := by omega
      go_enter Try.func21, Try.ntmps21
      go_wp2
      go_ret
      exact ⟨rfl, HB.out _⟩
  · obtain rfl : G = g := by have := HD.out; rwa [if_neg (by omega), if_neg (by omega)] at this
    obtain ⟨hg1, hg2⟩ := hg
    by_cases hz : G = 0
    · subst hz
      rcases HT.out with ⟨rfl, h1⟩ | ⟨rfl, h1, h2⟩ | ⟨rfl, h1, h2⟩
      · go_enter Try.func21, Try.ntmps21
        go_wp2
        go_ret
        exact ⟨rfl, HB.out _⟩
      · have h3 : x.lbd ≤ 4 := by omega
        go_enter Try.func21, Try.ntmps21
        go_wp2
        go_ret
        exact ⟨rfl, HB.out _⟩
      · have h3 : ¬ x.lbd ≤ 4 := by omega
        go_enter Try.func21, Try.ntmps21
        go_wp2
        go_ret
        exact ⟨rfl, HB.out _⟩
    · have hg3 : ¬ G < 0 := by omega
      have hg4 : 0 < G := by omega
      have hg5 : ¬ 65535 < G := by omega
      rcases HT.out with ⟨rfl, h1⟩ | ⟨rfl, h1, h2⟩ | ⟨rfl, h1, h2⟩
      · go_enter Try.func21, Try.ntmps21
        go_wp2
        go_ret
        exact ⟨rfl, HB.out _⟩
      · go_enter Try.func21, Try.ntmps21
        go_wp2
        go_ret
        exact ⟨rfl, HB.out _⟩
      · go_enter Try.func21, Try.ntmps21
        go_wp2
        go_ret
        exact ⟨rfl, HB.out _⟩
theorem lt_is (x y : Rc) : lt x y = if x.lbd ≠ y.lbd then decide (y.lbd < x.lbd) else if x.size ≠ y.size then decide (y.size < x.size) else if x.used ≠ y.used then decide (x.used < y.used) else decide (x.id < y.id) := by
  rcases h : lt x y with _ | _
  · rw [lt_no] at h
    symm
    split
    · exact decide_eq_false (by omega)
    · split
      · exact decide_eq_false (by omega)
      · split
        · exact decide_eq_false (by omega)
        · exact decide_eq_false (by omega)
  · rw [lt_iff] at h
    symm
    split
    · exact decide_eq_true (by omega)
    · split
      · exact decide_eq_true (by omega)
      · split
        · exact decide_eq_true (by omega)
        · exact decide_eq_true (by omega)
set_option maxHeartbeats 2000000 in
theorem before_any (x y : Rc) (w : World) : Calls Try.prog 28 #[agR x, agR y] w fun e w' => e = .returned (.bool (lt x y)) ∧ Below w.heap.size w w' := by
  have HL := Lib.hid (lt_is x y)
  have HB := Lib.hid (fun (o o' : Obj) => ((Below.refl w.heap.size w).alloc (Nat.le_refl _) o).alloc (by simp) o')
  generalize lt x y = R at *
  obtain ⟨i1, b1, s1, u1, l1⟩ := x
  obtain ⟨i2, b2, s2, u2, l2⟩ := y
  by_cases h1 : b1 = b2
  · by_cases h2 : s1 = s2
    · by_cases h3 : u1 = u2
      · have HR := Lib.hid (show R = decide (i1 < i2) by rw [HL.out]; simp [h1, h2, h3])
        subst h1 h2 h3
        go_enter Try.func28, Try.ntmps28
        go_wp2
        go_ret
        exact ⟨by rw [HR.out]; rfl, HB.out _ _⟩
      · have HR := Lib.hid (show R = decide (u1 < u2) by rw [HL.out]; simp [h1, h2, h3])
        have h3' : (u1 == u2) = false := by simpa using h3
        subst h1 h2
        go_enter Try.func28, Try.ntmps28
        go_wp2
        go_ret
        exact ⟨by rw [HR.out]; rfl, HB.out _ _⟩
    · have HR := Lib.hid (show R = decide (s2 < s1) by rw [HL.out]; simp [h1, h2])
      have h2' : (s1 == s2) = false := by simpa using h2
      subst h1
      go_enter Try.func28, Try.ntmps28
      go_wp2
      go_ret
      exact ⟨by rw [HR.out]; rfl, HB.out _ _⟩
  · have HR := Lib.hid (show R = decide (b2 < b1) by rw [HL.out]; simp [h1])
    have h1' : (b1 == b2) = false := by simpa using h1
    go_enter Try.func28, Try.ntmps28
    go_wp2
    go_ret
    exact ⟨by rw [HR.out]; rfl, HB.out _ _⟩
/-- The place found by going along the row. -/
theorem insR_at {x : Rc} {l : List Rc} {k : Nat} (hk : k ≤ l.length) (h1 : ∀ j, j < k → lt x l[j]! = false) (h2 : k = l.length ∨ lt x l[k]! = true) : insR x l = l.take k ++ ([x] ++ l.drop k) := by
  have : ∀ (l : List Rc) (k : Nat), k ≤ l.length → (∀ j, j < k → lt x l[j]! = false) → (k = l.length ∨ lt x l[k]! = true) → l.takeWhile (fun y => !lt x y) = l.take k ∧ l.dropWhile (fun y => !lt x y) = l.drop k := by
    intro l
    induction l with
    | nil => intro k hk _ _; obtain rfl : k = 0 := by simpa using hk
             exact ⟨rfl, rfl⟩
    | cons y t ih =>
      intro k hk h1 h2
      rcases k with _ | k
      · have : lt x y = true := by
          rcases h2 with h | h
          · simp at h
          · simpa using h
        simp [this]
      · have h0 : lt x y = false := by simpa using h1 0 (Nat.succ_pos _)
        obtain ⟨e1, e2⟩ := ih k (by simpa using hk) (fun j hj => by simpa using h1 (j + 1) (by omega)) (by
          rcases h2 with h | h
          · left; simpa using h
          · right; simpa using h)
        simp [h0, e1, e2]
  obtain ⟨e1, e2⟩ := this l k hk h1 h2
  unfold insR
  rw [e1, e2]; rfl
theorem goF_is (g : Int) (x : Rc) : goF g x = if x.locked = true ∨ tierF x.lbd g = 1 ∨ (tierF x.lbd g = 2 ∧ x.used ≠ 0) ∨ (tierF x.lbd g = 3 ∧ 2 ≤ x.used) then false else true := by
  unfold goF
  rcases tierF_cases x.lbd g with ⟨h, _⟩ | ⟨h, _⟩ | ⟨h, _⟩ <;> rw [h] <;> rcases x.locked <;> simp
  by_cases hu : 2 ≤ x.used
  · rw [decide_eq_false (by omega), decide_eq_true hu]; rfl
  · rw [decide_eq_true (by omega), decide_eq_false hu]; rfl
end Go.Proofs.Ytcblhfjgdkbinaa.Re
