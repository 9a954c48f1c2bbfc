/- Plain laws of what calls leave of a store. -/
import Derived.Test.YtcmicmghnmklnaaPhL
import Derived.Test.YtcmicmghnmklnaaPhH
namespace Go.Proofs.Ytcmicmghnmklnaa.Ph
open Go.RowKit Go.Proofs.Ytcmicmghnmklnaa.Ops
set_option linter.unusedVariables false

theorem xor_zero {a b : Nat} (h : a ^^^ b = 0) : a = b := by
  have : a ^^^ (a ^^^ b) = a := by rw [h, Nat.xor_zero]
  rw [← Nat.xor_assoc, Nat.xor_self, Nat.zero_xor] at this
  exact this.symm
theorem nextN_pos (x : Nat) (h : x < 18446744073709551616) (h0 : 0 < x) : 0 < nextN x := by
  unfold nextN
  have hA : x ^^^ (x * 8192 % 18446744073709551616) < 18446744073709551616 := Nat.xor_lt_two_pow (n := 64) (by omega) (by omega)
  have pA : 0 < x ^^^ (x * 8192 % 18446744073709551616) := Nat.pos_of_ne_zero fun e => by have := xor_zero e; omega
  simp only []
  generalize x ^^^ (x * 8192 % 18446744073709551616) = a at *
  have hB : a ^^^ (a / 128) < 18446744073709551616 := Nat.xor_lt_two_pow (n := 64) (by omega) (by omega)
  have pB : 0 < a ^^^ (a / 128) := Nat.pos_of_ne_zero fun e => by have := xor_zero e; omega
  generalize a ^^^ (a / 128) = b at *
  exact Nat.pos_of_ne_zero fun e => by have := xor_zero e; omega
/-- What stays so from call to call. -/
structure Good (N : Nat) (st : Bool) (m : PM) (c : Nat) : Prop where
  len : m.saved.length = N
  start : m.start = st
  pos : 0 < m.state
  top : m.state ≤ 18446744073709551615
  tu : m.turned ≤ c
theorem Good.new (N : Nat) (st : Bool) (seed : Int) (h0 : 0 ≤ seed) (h1 : seed ≤ 18446744073709551615) : Good N st (newM N st seed) 0 :=
  ⟨by simp [newM], rfl, by unfold newM; simp only []; split <;> omega, by unfold newM; simp only []; split <;> omega, by simp [newM]⟩
theorem Good.draw {N : Nat} {st : Bool} {m : PM} {c : Nat} (h : Good N st m c) : Good N st (drawM m) c := by
  have h0 := h.pos
  have h1 := h.top
  have a := nextN_pos m.state.toNat (by omega) (by omega)
  have b := nextN_lt m.state.toNat (by omega)
  exact ⟨h.len, h.start, by show (0 : Int) < (nextN m.state.toNat : Nat); omega, by show ((nextN m.state.toNat : Nat) : Int) ≤ 18446744073709551615; omega, h.tu⟩
theorem Good.val {N : Nat} {st : Bool} {m : PM} {c : Nat} (h : Good N st m c) (k : Int) (i : Nat) : Good N st (valM k m i).1 c := by
  unfold valM
  split
  · exact h
  · split
    · exact h
    · split
      · exact h
      · split
        · exact h.draw
        · exact h.draw
theorem Good.step {N : Nat} {st : Bool} {m : PM} {c : Nat} (h : Good N st m c) (k : Int) (i : Nat) : Good N st (stepM k m i) c := by
  have hv := h.val k i
  exact ⟨by rw [stepM_len]; exact h.len, hv.start, hv.pos, hv.top, hv.tu⟩
theorem Good.loop {N : Nat} {st : Bool} {m : PM} {c : Nat} (h : Good N st m c) (k : Int) (n : Nat) : Good N st (loopM k m n) c := by
  induction n with
  | zero => exact h
  | succ n ih => rw [loopM_succ]; exact ih.step k n
theorem Good.turn {N : Nat} {st : Bool} {m : PM} {c : Nat} (h : Good N st m c) : Good N st (turnM m) (c + 1) := by
  have hl := h.loop (kindN m.turned) m.saved.length
  exact ⟨hl.len, hl.start, hl.pos, hl.top, by show m.turned + 1 ≤ _; have := h.tu; omega⟩
theorem Good.more {N : Nat} {st : Bool} {m : PM} {c : Nat} (h : Good N st m c) : Good N st m (c + 1) := ⟨h.len, h.start, h.pos, h.top, by have := h.tu; omega⟩
theorem Good.save {N : Nat} {st : Bool} {m : PM} {c : Nat} (h : Good N st m c) (l : List Int) : Good N st (saveM m l) c := by
  unfold saveM
  split
  · exact ⟨by show (l.foldl putS m.saved).length = N; rw [foldl_putS_len]; exact h.len, h.start, h.pos, h.top, h.tu⟩
  · exact h
theorem Good.reach {N : Nat} {st : Bool} {m : PM} {c : Nat} (h : Good N st m c) (l : List Int) : Good N st (reachM m l) c := by
  have ht : Good N st (targetM m l) c := by
    unfold targetM
    split
    · exact ⟨h.len, h.start, h.pos, h.top, h.tu⟩
    · exact h
  have hb : Good N st (bestM (targetM m l) l) c := by
    unfold bestM
    split
    · exact ⟨ht.len, ht.start, ht.pos, ht.top, ht.tu⟩
    · exact ht
  unfold reachM
  split
  · exact hb
  · exact h
theorem Good.does {N : Nat} {st : Bool} {m : PM} {c : Nat} (h : Good N st m c) (o : Op3) : Good N st (doesM m o).1 (c + 1) ∧ 0 < (doesM m o).2 := by
  have h0 := h.pos
  have h1 := h.top
  unfold doesM
  split
  · exact ⟨(h.save _).more, Nat.one_pos⟩
  · split
    · exact ⟨(h.reach _).more, Nat.one_pos⟩
    · split
      · exact ⟨h.turn, Nat.one_pos⟩
      · split
        · exact ⟨h.draw.more, nextN_pos _ (by omega) (by omega)⟩
        · exact ⟨h.more, Nat.one_pos⟩
/-- All are the start value behind an original turn, the other one behind an inverted one. -/
theorem loop_fixed (k : Int) (hk : k = 0 ∨ k = 1) (m : PM) (n : Nat) (hn : n ≤ m.saved.length) : (loopM k m n).start = m.start ∧ ∀ i, i < n → (loopM k m n).saved.getD i false = (if k = 0 then m.start else !m.start) := by
  induction n with
  | zero => exact ⟨rfl, fun i hi => by omega⟩
  | succ n ih =>
    obtain ⟨h1, h2⟩ := ih (by omega)
    have hl := loopM_len k m n
    rw [loopM_succ]
    have hv : valM k (loopM k m n) n = (loopM k m n, if k = 0 then m.start else !m.start) := by
      unfold valM
      rcases hk with rfl | rfl
      · simp [h1]
      · simp [h1]
    have hs : stepM k (loopM k m n) n = { loopM k m n with saved := (loopM k m n).saved.set n (if k = 0 then m.start else !m.start) } := by unfold stepM; rw [hv]
    rw [hs]
    refine ⟨h1, fun i hi => ?_⟩
    show ((loopM k m n).saved.set n (if k = 0 then m.start else !m.start)).getD i false = _
    by_cases hin : i = n
    · subst hin
      simp [List.getD_eq_getElem?_getD, show i < (loopM k m i).saved.length by omega]
    · have := h2 i (by omega)
      rw [← this]
      simp [List.getD_eq_getElem?_getD, show n ≠ i by omega]
/-- What is saved last stands. -/
def wantB (v : Nat) (b : Bool) (l : List Int) (k : Nat) : Bool := (l.take k).foldl (wantS v) b
theorem wantB_succ (v : Nat) (b : Bool) (l : List Int) (k : Nat) (h : k < l.length) : wantB v b l (k + 1) = wantS v (wantB v b l k) (l.getD k 0) := by
  unfold wantB
  rw [List.take_succ_eq_append_getElem h, List.foldl_append]
  simp [List.getD_eq_getElem?_getD, h]
theorem putS_getD {N : Nat} {r : List Bool} (hr : r.length = N) {x : Int} (h0 : x ≠ 0) (h1 : x ≤ N) (h2 : -(N : Int) ≤ x) {v : Nat} (hv0 : 1 ≤ v) (hv1 : v ≤ N) :
    (putS r x).getD (v - 1) false = wantS v (r.getD (v - 1) false) x := by
  unfold putS wantS
  by_cases hx : x = v ∨ x = -(v : Int)
  · rw [if_pos hx]
    have e : x.natAbs - 1 = v - 1 := by omega
    rw [e]
    simp [List.getD_eq_getElem?_getD, show v - 1 < r.length by omega]
  · rw [if_neg hx]
    have e : x.natAbs - 1 ≠ v - 1 := by omega
    simp [List.getD_eq_getElem?_getD, e]
theorem wantB_saved {N : Nat} {l : List Int} (hf : Fits N l) {r : List Bool} (hr : r.length = N) {v : Nat} (hv0 : 1 ≤ v) (hv1 : v ≤ N) : ∀ k, k ≤ l.length → ((l.take k).foldl putS r).getD (v - 1) false = wantB v (r.getD (v - 1) false) l k := by
  intro k
  induction k with
  | zero => intro _; rfl
  | succ k ih =>
    intro hk
    obtain ⟨f0, f1, f2⟩ := hf k (by omega)
    rw [foldl_snoc putS r l k (by omega), putS_getD (by rw [foldl_putS_len]; exact hr) f0 f1 f2 hv0 hv1, ih (by omega), wantB_succ v _ l k (by omega)]
end Go.Proofs.Ytcmicmghnmklnaa.Ph
