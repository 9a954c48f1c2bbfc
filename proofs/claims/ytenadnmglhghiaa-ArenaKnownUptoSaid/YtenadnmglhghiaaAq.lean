/- Pick, SameClause; rows of clauses that came in. Conditions: the memory, at most a million literals each. -/
import Derived.Test.YtenadnmglhghiaaAp
namespace Go.Proofs.Ytenadnmglhghiaa.Ar
open Go.RowKit Go.Proofs.Ytenadnmglhghiaa.Mem Go.Proofs.Ytenadnmglhghiaa.Sl Go.Shelf Go.Proofs.Ytenadnmglhghiaa.Cl
open Go.Proofs.Ytenadnmglhghiaa.FnL (enc_at below_then)
set_option linter.unusedVariables false

def pickI (i n : Int) : Int := (i.tmod n + n).tmod n
theorem pickI_bd (i : Int) {n : Int} (hn : 0 < n) : 0 ≤ pickI i n ∧ pickI i n < n := by
  have h1 := Int.lt_tmod_of_pos i hn
  exact ⟨Int.tmod_nonneg _ (by omega), Int.tmod_lt_of_pos _ hn⟩
theorem pick_any (i : Int) (h0 : -9223372036854775808 ≤ i) (h1 : i ≤ 9223372036854775807) (n : Int) (hn : 0 < n) (hn2 : n ≤ 1000000) (w : World) :
    Calls Try.prog 10 #[.int .i64 i, .int .i64 n] w fun e w' => e = .returned (.int .i64 (pickI i n)) ∧ w' = w := by
  have hb1 : -n < i.tmod n ∧ i.tmod n < n := ⟨by have := Int.lt_tmod_of_pos i hn; omega, Int.tmod_lt_of_pos i hn⟩
  have HE := Lib.hid (show pickI i n = (i.tmod n + n).tmod n from rfl)
  have hp := pickI_bd i hn
  rw [HE.out] at hp
  obtain ⟨r, hr⟩ : ∃ r, i.tmod n = r := ⟨_, rfl⟩
  rw [hr] at hb1 HE hp
  have e1 : IntKind.i64.wrap r = r := IntWalk.i64_in _ (by omega)
  have e2 : IntKind.i64.wrap (r + n) = r + n := IntWalk.i64_in _ (by omega)
  obtain ⟨p, hpp⟩ : ∃ p, (r + n).tmod n = p := ⟨_, rfl⟩
  rw [hpp] at hp HE
  have e3 : IntKind.i64.wrap p = p := IntWalk.i64_in _ (by omega)
  have h3 : ¬ n ≤ 0 := by omega
  have h4 : (n == 0) = false := by simp; omega
  rw [HE.out]
  clear HE
  go_enter Try.func10, Try.ntmps10
  go_wp2
  go_ret
  exact ⟨rfl, rfl⟩
theorem sameClause_any {w : World} (a : Option Addr) (n c : Nat) (m : List Int) (hl : n = m.length) (hr : RdV w a (LI m)) (b : Option Addr) (n' c' : Nat) (m' : List Int) (hl' : n' = m'.length) (hr' : RdV w b (LI m')) (hmx : n ≤ 1048576) (hmx' : n' ≤ 1048576) :
    Calls Try.prog 14 #[.slice a n c, .slice b n' c'] w fun e w' => e = .returned (.bool (m == m')) ∧ Below w.heap.size w w' := by
  have HM := Lib.hid hr
  have HM' := Lib.hid hr'
  have HL := Lib.hid hl
  have HL' := Lib.hid hl'
  clear hr hr' hl hl'
  by_cases hn : n = n'
  · subst hn
    go_enter Try.func14, Try.ntmps14
    go_wp2_with fail
    go_loopw [5] (fun i wr => ∃ k : Nat, k ≤ n ∧ i = .int .i64 k ∧ m.take k = m'.take k ∧ Below w.heap.size w wr) (fun i _ => n - (intOf i).toNat)
    case atStart => exact ⟨0, Nat.zero_le _, rfl, rfl, Below.refl _ _⟩
    case round =>
      obtain ⟨k, hk, rfl, hf, hb⟩ := hrel
      have HF := Lib.hid hf
      have HB := Lib.hid hb
      clear hf hb
      by_cases hlt : k < n
      · have hkl : k < m.length := by rw [← HL.out]; exact hlt
        have hkl' : k < m'.length := by rw [← HL'.out]; exact hlt
        obtain ⟨b1, o1, ha1, _, hc1⟩ := RdV.at_ (HM.out.below HB.out) (enc_at (enc := Value.int .i32) hkl)
        obtain ⟨b2, o2, ha2, _, hc2⟩ := RdV.at_ (HM'.out.below HB.out) (enc_at (enc := Value.int .i32) hkl')
        subst ha1 ha2
        have HT := Lib.hid (show m[k]'hkl = m'[k]'hkl' → m.take (k + 1) = m'.take (k + 1) from fun h => by rw [List.take_succ_eq_append_getElem hkl, List.take_succ_eq_append_getElem hkl', HF.out, h])
        have HNE := Lib.hid (show m[k]'hkl ≠ m'[k]'hkl' → (m == m') = false from fun h => by
          rw [beq_eq_false_iff_ne]
          rintro rfl
          exact h rfl)
        generalize m[k]'hkl = x at *
        generalize m'[k]'hkl' = y at *
        clear hkl hkl'
        by_cases hxy : x = y
        · have HE := Lib.hid (HT.out hxy)
          subst hxy
          go_wp2_with fail
          go_quiet (fail)
          go_wp2
          go_roundw
          case rel => exact ⟨k + 1, by omega, by go_num, HE.out, belowN HB.out _⟩
          case measure => simp [intOf]; omega
        · have HE := Lib.hid (HNE.out hxy)
          have hxy' : (x == y) = false := by simpa using hxy
          go_wp2_with fail
          go_quiet (fail)
          go_wp2
          go_ret
          exact ⟨by rw [HE.out]; rfl, belowN HB.out _⟩
      · have HE := Lib.hid (show (m == m') = true by
          have := HF.out
          rw [List.take_of_length_le (by rw [← HL.out]; omega), List.take_of_length_le (by rw [← HL'.out]; omega)] at this
          rw [this]; simp)
        go_wp2
        go_ret
        exact ⟨by rw [HE.out]; rfl, HB.out⟩
  · have HE := Lib.hid (show (m == m') = false by
      rw [beq_eq_false_iff_ne]
      rintro rfl
      exact hn (HL.out.trans HL'.out.symm))
    have hn' : (n : Int) ≠ n' := by omega
    go_enter Try.func14, Try.ntmps14
    go_wp2
    go_ret
    exact ⟨by rw [HE.out]; rfl, Below.refl _ _⟩
/-- A row of clauses, each at most a million long. -/
structure Cls (B : Nat) (w : World) (A : Option Addr) (n : Nat) (cs : List CV) : Prop where
  ln : n = cs.length
  mx : n ≤ 1048576
  rd : RdB B w A (cs.map CV.v)
  all : ∀ x, x ∈ cs → ClOk B w x ∧ x.n ≤ 1048576
theorem Cls.below {B : Nat} {w w' : World} {A : Option Addr} {n : Nat} {cs : List CV} (h : Cls B w A n cs) (hb : Below B w w') : Cls B w' A n cs := ⟨h.ln, h.mx, h.rd.below hb, fun x hx => ⟨(h.all x hx).1.below hb, (h.all x hx).2⟩⟩
def cvOf (x : Rdr.SlV × List Int) : CV := ⟨x.1.A, x.1.n, x.1.c, x.2⟩
theorem clU_rel {w : World} {cs : List Value} {x : Rdr.SlV × List Int} (h : (RdU.sliceU (Rdr.int .i32)).rel w cs x) : ClOk w.heap.size w (cvOf x) ∧ cs = [(cvOf x).v] ∧ (cvOf x).n ≤ 1048576 := by
  obtain ⟨⟨h1, h2, h3, h4, h5, h6⟩, h7⟩ := h
  refine ⟨⟨h2.symm, by have : x.1.n ≤ 1048576 := h7; show x.1.n ≤ _; omega, RdB.of (RdC.cells_of (r := Rdr.int .i32) (enc := Value.int .i32) (fun _ _ _ h => h.1) rfl h2 h3 h5 h6), fun y hy => ?_⟩, h1, h7⟩
  obtain ⟨i, hi, rfl⟩ := List.getElem_of_mem hy
  have hi' : i < x.2.length := hi
  rcases hA : x.1.A with _ | a
  · have := h5 hA; omega
  · obtain ⟨cs', _, _, _, q⟩ := h6 a hA i (x.2[i]'hi') (List.getElem?_eq_getElem hi')
    simp only [Lit.wf, Bool.and_eq_true, decide_eq_true_eq] at q
    exact q
theorem clsU_of {w : World} {A : Option Addr} {n c : Nat} {x : Rdr.SlV × List (Rdr.SlV × List Int)} (h : (RdU.sliceU (RdU.sliceU (Rdr.int .i32))).rel w [.slice A n c] x) : Cls w.heap.size w A n (x.2.map cvOf) := by
  obtain ⟨⟨h1, h2, h3, h4, h5, h6⟩, h7⟩ := h
  injection h1 with h1 _
  injection h1 with hA hn hc
  rw [← hA] at h5 h6
  rw [← hn] at h2 h3 h7
  rw [← hc] at h3 h4 h5
  refine ⟨by simpa using h2.symm, h7, ?_, fun y hy => ?_⟩
  · rw [List.map_map]
    exact RdB.of (RdC.cells_of (r := RdU.sliceU (Rdr.int .i32)) (enc := CV.v ∘ cvOf) (fun w cs y h => (clU_rel h).2.1) rfl h2 h3 h5 h6)
  · obtain ⟨z, hz, rfl⟩ := List.mem_map.1 hy
    obtain ⟨i, hi, rfl⟩ := List.getElem_of_mem hz
    rcases hA : A with _ | a
    · have := h5 hA; omega
    · obtain ⟨cs', _, _, q⟩ := h6 a hA i _ (List.getElem?_eq_getElem hi)
      exact ⟨(clU_rel q).1, (clU_rel q).2.2⟩
theorem bools_rel {w : World} {A : Option Addr} {n c : Nat} {x : Rdr.SlV × List Bool} (h : (RdU.sliceU Rdr.bool).rel w [.slice A n c] x) : RdB w.heap.size w A (x.2.map Value.bool) ∧ n = x.2.length ∧ n ≤ 1048576 := by
  obtain ⟨⟨h1, h2, h3, h4, h5, h6⟩, h7⟩ := h
  injection h1 with h1 _
  injection h1 with hA hn hc
  rw [← hA] at h5 h6
  rw [← hn] at h2 h3 h7
  rw [← hc] at h3 h4 h5
  exact ⟨RdB.of (RdC.cells_of (r := Rdr.bool) (enc := Value.bool) (fun _ _ _ h => h) rfl h2 h3 h5 h6), h2.symm, h7⟩
end Go.Proofs.Ytenadnmglhghiaa.Ar
