/- A heap alive, its contracts in a row; same, works. Conditions: the memory. -/
import Derived.Test.YtienomdennbkpaaHt
namespace Go.Proofs.Ytienomdennbkpaa.He
open Go.RowKit Go.Proofs.Ytienomdennbkpaa.Mem Go.Proofs.Ytienomdennbkpaa.Sl Go.Shelf
open Go.Proofs.Ytienomdennbkpaa.FnL (enc_at below_then)
set_option linter.unusedVariables false

theorem same_any {w : World} (a : Option Addr) (n c : Nat) (m : List Int) (hl : n = m.length) (hr : RdV w a (LZ m)) (b : Option Addr) (n' c' : Nat) (m' : List Int) (hl' : n' = m'.length) (hr' : RdV w b (LZ m')) (hmx : n ≤ 4000000) (hmx' : n' ≤ 4000000) :
    Calls Try.prog 13 #[.slice a n c, .slice b n' c'] w fun e w' => e = .returned (.bool (m == m')) ∧ Below w.heap.size w w' := by
  have HM := Lib.hid hr
  have HM' := Lib.hid hr'
  have HL := Lib.hid hl
  have HL' := Lib.hid hl'
  clear hr hr' hl hl'
  by_cases hn : n = n'
  · subst hn
    go_enter Try.func13, Try.ntmps13
    go_wp2_with fail
    go_loopw [5] (fun i wr => ∃ k : Nat, k ≤ n ∧ i = .int .i64 k ∧ m.take k = m'.take k ∧ Below w.heap.size w wr) (fun i _ => n - (intOf i).toNat)
    case atStart => exact ⟨0, Nat.zero_le _, rfl, rfl, Below.refl _ _⟩
    case round =>
      obtain ⟨k, hk, rfl, hf, hb⟩ := hrel
      have HF := Lib.hid hf
      have HB := Lib.hid hb
      clear hf hb
      by_cases hlt : k < n
      · have hkl : k < m.length := by rw [← HL.out]; exact hlt
        have hkl' : k < m'.length := by rw [← HL'.out]; exact hlt
        obtain ⟨b1, o1, ha1, _, hc1⟩ := RdV.at_ (HM.out.below HB.out) (enc_at (enc := Value.int .i64) hkl)
        obtain ⟨b2, o2, ha2, _, hc2⟩ := RdV.at_ (HM'.out.below HB.out) (enc_at (enc := Value.int .i64) hkl')
        subst ha1 ha2
        have HT := Lib.hid (show m[k]'hkl = m'[k]'hkl' → m.take (k + 1) = m'.take (k + 1) from fun h => by rw [List.take_succ_eq_append_getElem hkl, List.take_succ_eq_append_getElem hkl', HF.out, h])
        have HNE := Lib.hid (show m[k]'hkl ≠ m'[k]'hkl' → (m == m') = false from fun h => by
          rw [beq_eq_false_iff_ne]
          rintro rfl
          exact h rfl)
        generalize m[k]'hkl = x at *
        generalize m'[k]'hkl' = y at *
        clear hkl hkl'
        by_cases hxy : x = y
        · have HE := Lib.hid (HT.out hxy)
          subst hxy
          go_wp2_with fail
          go_quiet (fail)
          go_wp2
          go_roundw
          case rel => exact ⟨k + 1, by omega, by go_num, HE.out, belowN HB.out _⟩
          case measure => simp [intOf]; omega
        · have HE := Lib.hid (HNE.out hxy)
          have hxy' : (x == y) = false := by simpa using hxy
          go_wp2_with fail
          go_quiet (fail)
          go_wp2
          go_ret
          exact ⟨by rw [HE.out]; rfl, belowN HB.out _⟩
      · have HE := Lib.hid (show (m == m') = true by
          have := HF.out
          rw [List.take_of_length_le (by rw [← HL.out]; omega), List.take_of_length_le (by rw [← HL'.out]; omega)] at this
          rw [this]; simp)
        go_wp2
        go_ret
        exact ⟨by rw [HE.out]; rfl, HB.out⟩
  · have HE := Lib.hid (show (m == m') = false by
      rw [beq_eq_false_iff_ne]
      rintro rfl
      exact hn (HL.out.trans HL'.out.symm))
    have hn' : (n : Int) ≠ n' := by omega
    go_enter Try.func13, Try.ntmps13
    go_wp2
    go_ret
    exact ⟨by rw [HE.out]; rfl, Below.refl _ _⟩
theorem Next.below {w w' : World} {B N : Nat} {q : HA} {m : HM} {s l : List Int} (h : HL w B N q m) (hB : B ≤ w.heap.size) (k : Next w B N q s l w') : Below B w w' := by
  obtain ⟨_, _, _, _, _, _, _, hm⟩ := k
  exact hm.below (fun i _ hi => (h.hr.lt hi).1) hB
/-- A heap alive, at an address: with these scores, these in it; none of its blocks is in X. -/
def Al (w : World) (B N g : Nat) (X : Nat → Prop) (s l : List Int) : Prop := ∃ q m, HL w B N q m ∧ m.s = s ∧ m.l.Perm l ∧ q.g = g ∧ ∀ i, X i → ¬ mine q i
abbrev nox : Nat → Prop := fun _ => False
section
variable {w w' : World} {B N g : Nat} {X : Nat → Prop} {s l : List Int}
theorem Al.below (h : Al w B N g X s l) (hb : Below w.heap.size w w') : Al w' B N g X s l := by
  obtain ⟨q, m, h1, h2⟩ := h; exact ⟨q, m, h1.below hb, h2⟩
theorem Al.perm {l' : List Int} (h : Al w B N g X s l) (hp : l.Perm l') : Al w B N g X s l' := by
  obtain ⟨q, m, h1, h2, h3, h4⟩ := h; exact ⟨q, m, h1, h2, h3.trans hp, h4⟩
/-- What is laid behind it is none of its own. -/
theorem Al.add {Y : Nat → Prop} (h : Al w B N g X s l) (hY : ∀ i, Y i → X i ∨ w.heap.size ≤ i) : Al w B N g Y s l := by
  obtain ⟨q, m, h1, h2, h3, h4, h5⟩ := h
  exact ⟨q, m, h1, h2, h3, h4, fun i hi hm => (hY i hi).elim (fun e => h5 i e hm) (fun e => by have := (h1.hr.lt hm).2; omega)⟩
def After (w : World) (B N g : Nat) (X : Nat → Prop) (s l : List Int) (w' : World) : Prop := Al w' B N g X s l ∧ Below B w w' ∧ Mod (fun i => ¬ X i) w w'
theorem Al.of {q : HA} {m : HM} {s' l' : List Int} (h1 : HL w B N q m) (hB : B ≤ w.heap.size) (hX : ∀ i, X i → ¬ mine q i) (hx : ∀ i, X i → i < w.heap.size) (h : Next w B N q s' l' w') : After w B N q.g X s' l' w' := by
  have hb := Next.below h1 hB h
  obtain ⟨q', m', k1, k2, k3, k4, k5, k6⟩ := h
  exact ⟨⟨q', m', k1, k2, k3, k4, fun i hi hm => (k5 i hm).elim (hX i hi) (fun e => by have := hx i hi; omega)⟩, hb, k6.mono fun i _ hm hi => hX i hi hm⟩
theorem Al.sb (h : Al w B N g X s l) : ∀ x, x ∈ s → 0 ≤ x ∧ x ≤ 1152921504606846976 := by
  obtain ⟨q, m, h1, rfl, _⟩ := h; exact h1.sb
theorem Al.rg (h : Al w B N g X s l) : ∀ x, x ∈ l → 1 ≤ x ∧ x ≤ N := by
  obtain ⟨q, m, h1, _, h3, _⟩ := h; exact fun x hx => h1.hr.ord.rg x (h3.mem_iff.2 hx)
theorem Al.nd (h : Al w B N g X s l) : l.Nodup := by
  obtain ⟨q, m, h1, _, h3, _⟩ := h; exact h3.nodup_iff.1 h1.hr.ord.nd
theorem Al.len (h : Al w B N g X s l) : l.length ≤ N := by
  obtain ⟨q, m, h1, _, h3, _⟩ := h; rw [← h3.length_eq]; exact h1.hr.lenN
theorem Al.sl (h : Al w B N g X s l) : s.length = N + 1 := by
  obtain ⟨q, m, h1, rfl, _⟩ := h; exact h1.hr.sl
theorem Al.hN (h : Al w B N g X s l) : N ≤ 1048576 := by
  obtain ⟨q, m, h1, rfl, _⟩ := h; exact h1.hr.hN
/-- There is an order. -/
theorem Al.ord (h : Al w B N g X s l) : ∃ l', Ord s l' l := by
  obtain ⟨l', hl⟩ := lift_list (N := N) l h.rg
  exact ⟨_, ord_srt h.hN l' hl h.nd⟩
end
theorem pushE_perm {N : Nat} {l l' : List Int} (h : l.Perm l') (v : Int) : pushE N l v = pushE N l' v ∧ (pushL N l v).Perm (pushL N l' v) := by
  unfold pushE pushL
  have hm : v ∈ l ↔ v ∈ l' := h.mem_iff
  by_cases h1 : isB N v = true
  · by_cases h2 : v ∈ l
    · simp only [h1, if_true, h2, hm.1 h2]; exact ⟨trivial, h⟩
    · have h3 : ¬ v ∈ l' := fun e => h2 (hm.2 e)
      simp only [h1, if_true, h2, h3, if_false]; exact ⟨trivial, h.append_right _⟩
  · simp only [h1]; exact ⟨by first | rfl | trivial, by first | exact h | simpa using h⟩
theorem remE_perm {N : Nat} {l l' : List Int} (h : l.Perm l') (v : Int) : remE N l v = remE N l' v := by
  unfold remE
  have hm : v ∈ l ↔ v ∈ l' := h.mem_iff
  by_cases h2 : v ∈ l
  · simp only [h2, hm.1 h2]
  · have h3 : ¬ v ∈ l' := fun e => h2 (hm.2 e)
    simp only [h2, h3]
/-- The first one in order is the heap's root. -/
theorem HL.top {w : World} {B N : Nat} {q : HA} {m : HM} (h : HL w B N q m) {l' : List Int} (ho : Ord m.s l' m.l) : m.l.getD 0 0 = l'.getD 0 0 := by
  have hlen := ho.1.length_eq
  rcases Nat.eq_zero_or_pos m.l.length with h0 | hp
  · rw [List.eq_nil_of_length_eq_zero h0, List.eq_nil_of_length_eq_zero (hlen.trans h0)]
  · have hN := h.hr.hN
    have hm1 : l'.getD 0 0 ∈ m.l := ho.1.mem_iff.1 (getD_mem (by omega))
    have hm2 : m.l.getD 0 0 ∈ l' := ho.1.mem_iff.2 (getD_mem hp)
    obtain ⟨i, hi, he⟩ := List.getElem_of_mem hm1
    obtain ⟨j, hj, hf⟩ := List.getElem_of_mem hm2
    have h1 : kf m.s (m.l.getD 0 0) ≤ kf m.s (l'.getD 0 0) := by
      have := heap_root h.hp i hi
      unfold vf at this
      rw [show m.l.getD i 0 = l'.getD 0 0 by rw [List.getD_eq_getElem?_getD, List.getElem?_eq_getElem hi]; exact he] at this
      exact this
    have h2 : kf m.s (l'.getD 0 0) ≤ kf m.s (m.l.getD 0 0) := by
      have e : l'.getD j 0 = m.l.getD 0 0 := by rw [List.getD_eq_getElem?_getD, List.getElem?_eq_getElem hj]; exact hf
      rcases Nat.eq_zero_or_pos j with rfl | hjp
      · rw [e]; exact Int.le_refl _
      · have := srt_lt ho.2 hjp hj
        rw [e] at this
        omega
    have r1 := h.hr.ord.rg _ (getD_mem hp)
    have r2 := h.hr.ord.rg _ hm1
    exact kf_inj m.s ⟨by omega, by omega⟩ ⟨by omega, by omega⟩ (by omega)
section
variable {w : World} {B N g : Nat} {X : Nat → Prop} {s l : List Int}
def AlNewR (w : World) (N : Nat) (e : Ending) (w' : World) : Prop := (∃ g, e = .returned (.tuple #[.pointer (some ⟨g, 0, none⟩), .int .i64 0]) ∧ Al w' w.heap.size N g nox (List.replicate (N + 1) 0) []) ∧ Below w.heap.size w w'
theorem al_new (N : Nat) (hN : N ≤ 1048576) (w : World) : Calls Try.prog 9 #[.int .i64 (N : Int)] w (AlNewR w N) :=
  (new_ok N hN w).mono fun e w' ⟨⟨q, h1, h2⟩, h3⟩ => ⟨⟨q.g, h1, q, newH N, h2, rfl, List.Perm.refl _, rfl, fun _ e => e.elim⟩, h3⟩
theorem al_push (h : Al w B N g X s l) (hB : B ≤ w.heap.size) (hx : ∀ i, X i → i < w.heap.size) (v : Int) : Calls Try.prog 11 #[.pointer (some ⟨g, 0, none⟩), .int .i64 v] w fun e w' => e = .returned (.int .i64 (pushE N l v)) ∧ After w B N g X s (pushL N l v) w' := by
  obtain ⟨q, m, h1, rfl, h3, rfl, h5⟩ := h
  refine (hpush_any h1 hB v).mono fun e w' ⟨k1, k2⟩ => ?_
  obtain ⟨p1, p2⟩ := pushE_perm (N := N) h3 v
  exact ⟨p1 ▸ k1, Al.of h1 hB h5 hx (k2.perm p2)⟩
theorem al_rem (h : Al w B N g X s l) (hB : B ≤ w.heap.size) (hx : ∀ i, X i → i < w.heap.size) (v : Int) : Calls Try.prog 17 #[.pointer (some ⟨g, 0, none⟩), .int .i64 v] w fun e w' => e = .returned (.int .i64 (remE N l v)) ∧ After w B N g X s (l.erase v) w' := by
  obtain ⟨q, m, h1, rfl, h3, rfl, h5⟩ := h
  refine (hrem_any h1 v).mono fun e w' ⟨k1, k2⟩ => ?_
  exact ⟨(remE_perm (N := N) h3 v) ▸ k1, Al.of h1 hB h5 hx (k2.perm (h3.erase v))⟩
theorem al_pop (h : Al w B N g X s l) (hB : B ≤ w.heap.size) (hx : ∀ i, X i → i < w.heap.size) {l' : List Int} (ho : Ord s l' l) : Calls Try.prog 21 #[.pointer (some ⟨g, 0, none⟩)] w fun e w' => e = .returned (.tuple #[.int .i64 (l'.getD 0 0), .bool (decide (0 < l'.length))]) ∧ After w B N g X s l'.tail w' := by
  obtain ⟨q, m, h1, rfl, h3, rfl, h5⟩ := h
  have ho' : Ord m.s l' m.l := ⟨ho.1.trans h3.symm, ho.2⟩
  have ht := h1.top ho'
  have hlen := ho'.1.length_eq
  refine (hpop_any h1).mono fun e w' ⟨k1, k2⟩ => ?_
  rw [ht, ← hlen] at k1
  rw [ht] at k2
  refine ⟨k1, Al.of h1 hB h5 hx (k2.perm ((ho'.1.symm.erase _).trans ?_))⟩
  rcases l' with _ | ⟨x, l'⟩
  · exact List.Perm.refl _
  · show ((x :: l').erase x).Perm l'
    rw [List.erase_cons_head]
theorem al_top (h : Al w B N g X s l) {l' : List Int} (ho : Ord s l' l) : Calls Try.prog 27 #[.pointer (some ⟨g, 0, none⟩)] w fun e w' => e = .returned (.tuple #[.int .i64 (l'.getD 0 0), .bool (decide (0 < l'.length))]) ∧ w = w' := by
  obtain ⟨q, m, h1, rfl, h3, rfl, _⟩ := h
  have ho' : Ord m.s l' m.l := ⟨ho.1.trans h3.symm, ho.2⟩
  have := top_any h1.hr
  rwa [h1.top ho', ← ho'.1.length_eq] at this
theorem al_size (h : Al w B N g X s l) : Calls Try.prog 19 #[.pointer (some ⟨g, 0, none⟩)] w fun e w' => e = .returned (.int .i64 (l.length : Int)) ∧ w = w' := by
  obtain ⟨q, m, h1, rfl, h3, rfl, _⟩ := h
  have := size_any h1.hr
  rwa [h3.length_eq] at this
theorem al_has (h : Al w B N g X s l) (v : Int) : Calls Try.prog 18 #[.pointer (some ⟨g, 0, none⟩), .int .i64 v] w fun e w' => e = .returned (.bool (decide (v ∈ l))) ∧ w = w' := by
  obtain ⟨q, m, h1, rfl, h3, rfl, _⟩ := h
  have := has_any h1.hr v
  rwa [decide_eq_decide.2 (h3.mem_iff (a := v))] at this
theorem al_score (h : Al w B N g X s l) (v : Int) : Calls Try.prog 16 #[.pointer (some ⟨g, 0, none⟩), .int .i64 v] w fun e w' => e = .returned (.int .i64 (scI N s v)) ∧ w = w' := by
  obtain ⟨q, m, h1, rfl, h3, rfl, _⟩ := h
  exact score_any h1.hr v
theorem al_bad (h : Al w B N g X s l) (v y : Int) (hb : isB N v = false ∨ y < 0 ∨ MOST < y) : Calls Try.prog 10 #[.pointer (some ⟨g, 0, none⟩), .int .i64 v, .int .i64 y] w fun e w' => e = .returned (.tuple #[.bool false, .int .i64 2]) ∧ w = w' := by
  obtain ⟨q, m, h1, rfl, h3, rfl, _⟩ := h
  exact bump_bad h1.hr v y hb
theorem al_bump (h : Al w B N g X s l) (hB : B ≤ w.heap.size) (hx : ∀ i, X i → i < w.heap.size) (v : Nat) (y : Int) (hv : 1 ≤ v ∧ v ≤ N) (hy : 0 ≤ y ∧ y ≤ MOST) :
    Calls Try.prog 10 #[.pointer (some ⟨g, 0, none⟩), .int .i64 (v : Int), .int .i64 y] w fun e w' => e = .returned (.tuple #[.bool (decide (MOST < s.getD v 0 + y)), .int .i64 0]) ∧ After w B N g X (bumpF s v y) l w' := by
  obtain ⟨q, m, h1, rfl, h3, rfl, h5⟩ := h
  refine (bump_ok (l := m.l) (pl := m.pl) (s := m.s) h1 v y hv hy).mono fun e w' ⟨k1, k2⟩ => ?_
  exact ⟨k1, Al.of h1 hB h5 hx (k2.perm h3)⟩
/-- Whatever is handed in. -/
def BumpR (w : World) (B N g : Nat) (X : Nat → Prop) (l : List Int) (e : Ending) (w' : World) : Prop := ∃ b x s', e = .returned (.tuple #[.bool b, .int .i64 x]) ∧ After w B N g X s' l w'
theorem al_same (h : Al w B N g X s l) : After w B N g X s l w := ⟨h, Below.refl _ _, Mod.refl _ _⟩
theorem al_bumpE (h : Al w B N g X s l) (hB : B ≤ w.heap.size) (hx : ∀ i, X i → i < w.heap.size) (v y : Int) :
    Calls Try.prog 10 #[.pointer (some ⟨g, 0, none⟩), .int .i64 v, .int .i64 y] w (BumpR w B N g X l) := by
  by_cases hb : isB N v = false ∨ y < 0 ∨ MOST < y
  · exact (al_bad h v y hb).mono fun e w' ⟨he, hw⟩ => ⟨false, 2, s, he, hw ▸ al_same h⟩
  · have h1 : 1 ≤ v ∧ v ≤ N := by
      by_cases hq : 1 ≤ v ∧ v ≤ N
      · exact hq
      · exact absurd (.inl (decide_eq_false hq)) hb
    obtain ⟨u, rfl⟩ : ∃ u : Nat, v = u := ⟨v.toNat, by omega⟩
    refine (al_bump h hB hx u y ⟨by omega, by omega⟩ ⟨?_, ?_⟩).mono fun e w' ⟨he, hw⟩ => ⟨_, 0, _, he, hw⟩
    · exact Int.not_lt.1 fun hq => hb (.inr (.inl hq))
    · exact Int.not_lt.1 fun hq => hb (.inr (.inr hq))
def OrdR (w : World) (n : Nat) (l0 : List Int) (e : Ending) (w' : World) : Prop := (∃ A c, e = .returned (.slice A n c) ∧ App.Own w' w.heap.size 3 A n c (LZ l0)) ∧ Below w.heap.size w w'
theorem al_ord {l0 : List Int} {n : Nat} (h : Al w B N g X s l) (h0 : Ord s l0 l) (hn : l0.length = n) : Calls Try.prog 12 #[.pointer (some ⟨g, 0, none⟩)] w (OrdR w n l0) := by
  obtain ⟨q, m, h1, rfl, h3, rfl, _⟩ := h
  refine (order_any h1.hr).mono fun e w' ⟨⟨A, c, l', k1, k2, k3⟩, k4⟩ => ?_
  have hl : m.l.length = n := by rw [← hn, ← h0.1.symm.length_eq]; exact h3.length_eq
  have he := Ord.uniq k3 h0 h3
  rw [hl] at k1 k2
  rw [he] at k2
  exact ⟨⟨A, c, k1, k2⟩, k4⟩
end
end Go.Proofs.Ytienomdennbkpaa.He
