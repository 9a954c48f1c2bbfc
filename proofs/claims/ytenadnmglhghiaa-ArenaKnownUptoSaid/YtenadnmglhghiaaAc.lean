/- An arena's readers: Len, ID, Red, LBD, Words. Conditions: the memory. -/
import Derived.Test.YtenadnmglhghiaaAb
import Derived.Test.YtenadnmglhghiaaBt
namespace Go.Proofs.Ytenadnmglhghiaa.Ar
open Go.RowKit Go.Proofs.Ytenadnmglhghiaa.Mem Go.Proofs.Ytenadnmglhghiaa.Sl Go.Shelf
open Go.Proofs.Ytenadnmglhghiaa.FnL (enc_at below_then)
set_option linter.unusedVariables false

def zeroItm : Itm := ⟨0, 0, [], false, 0, 0, false⟩
/-- What is told of a place: the clause; what is not there is zero. -/
def get (its : List Itm) (r : Int) : Itm := ((fnd its r).bind fun i => its[i]?).getD zeroItm
theorem find_cases (its : List Itm) (r : Int) : (isE its r = 91 ∧ fnd its r = none ∧ get its r = zeroItm) ∨ (∃ i, ∃ hi : i < its.length, isE its r = 0 ∧ fnd its r = some i ∧ get its r = its[i] ∧ r = (sumw (its.take i) : Nat) ∧ (its[i]).dead = false) := by
  rcases hf : fnd its r with _ | i
  · exact .inl ⟨by unfold isE; rw [hf]; rfl, rfl, by unfold get; rw [hf]; rfl⟩
  · obtain ⟨hi, e, hd⟩ := fnd_some hf
    exact .inr ⟨i, hi, by unfold isE; rw [hf]; rfl, rfl, by unfold get; rw [hf]; simp [List.getElem?_eq_getElem hi], e.symm, hd⟩
/-- What is known of a clause that is found. -/
structure Fd (w : World) (q : AAd) (x : Itm) (r a n : Nat) : Prop where
  c1 : w.cell? ⟨q.g, 1, none⟩ = some (.slice (some ⟨a, 0, none⟩) n q.c)
  w0 : w.cell? ⟨a, r, none⟩ = some (.int .u32 (hdI x))
  w1 : w.cell? ⟨a, r + 1, none⟩ = some (.int .u32 (x.id % 4294967296))
  w2 : w.cell? ⟨a, r + 2, none⟩ = some (.int .u32 (x.id / 4294967296))
  w3 : w.cell? ⟨a, r + 3, none⟩ = some (.int .u32 (x.lbd * 65536 + x.used))
  wl : ∀ j, (hj : j < x.l.length) → w.cell? ⟨a, r + 4 + j, none⟩ = some (.int .u32 (u32 x.l[j]))
  le : r + x.wd ≤ n
  nl : n ≤ 268435456
  fz : ∀ j, w.frozen? ⟨a, j, none⟩ = false
  ok : IOk x
  live : x.dead = false
section
variable {w : World} {base : Nat} {q : AAd} {lim : Int} {its : List Itm}
theorem AR.fd (h : AR w base q lim its) {i : Nat} (hi : i < its.length) (hd : (its[i]).dead = false) : ∃ a n, Fd w q its[i] (sumw (its.take i)) a n ∧ n = sumw its ∧ q.A = some ⟨a, 0, none⟩ ∧ base ≤ a := by
  have hok := h.ok its[i] (List.getElem_mem hi)
  have hw := hok.wd
  obtain ⟨a, eA, ha, h0, _, hle⟩ := h.word hi (j := 0) (by omega) (v := hdI its[i]) rfl
  have same : ∀ {j : Nat} {v : Int}, j < its[i].wd → (enc its[i])[j]? = some v → w.cell? ⟨a, sumw (its.take i) + j, none⟩ = some (.int .u32 v) := fun hj hv => by
    obtain ⟨a2, eA2, _, hc, _, _⟩ := h.word hi hj hv
    obtain rfl : a = a2 := by rw [eA] at eA2; injection eA2 with e; injection e
    exact hc
  have hl0 := h.l0
  have hl1 := h.l1
  refine ⟨a, sumw its, ⟨by rw [← eA]; exact h.blk.cell 1, h0, same (by omega) rfl, same (by omega) rfl, same (by omega) rfl, fun j hj => ?_, hle, by omega, fun j => ?_, hok, hd⟩, rfl, eA, ha⟩
  · rw [Nat.add_assoc]
    refine same (by omega) ?_
    unfold enc
    rw [show 4 + j = j + 1 + 1 + 1 + 1 by omega, List.getElem?_cons_succ, List.getElem?_cons_succ, List.getElem?_cons_succ, List.getElem?_cons_succ, List.getElem?_append_left (by rw [List.length_map]; exact hj), List.getElem?_map, List.getElem?_eq_getElem hj]
    rfl
  · obtain ⟨a2, eA2, _, hr⟩ := h.row.row (by omega)
    obtain rfl : a = a2 := by rw [eA] at eA2; injection eA2 with e; injection e
    exact hr.frozen j
theorem len_any (h : AR w base q lim its) (r : Int) (hr : inI r) : Calls Try.prog 27 #[.pointer (some ⟨q.g, 0, none⟩), .int .i64 r] w fun e w' => e = .returned (.int .i64 ((get its r).l.length : Nat)) ∧ w = w' := by
  have HS := Lib.hid (is_any h r hr)
  rcases find_cases its r with ⟨h1, _, h2⟩ | ⟨i, hi, h1, _, h2, h3, h4⟩
  · rw [h1] at HS
    have HE := Lib.hid (show (get its r).l.length = 0 by rw [h2]; rfl)
    clear h h1 h2
    go_enter Try.func27, Try.ntmps27
    go_wp2_with fail
    refine HS.out.mono ?_
    rintro e w1 ⟨rfl, rfl⟩
    go_wp2
    go_ret
    exact ⟨by rw [HE.out]; rfl, rfl⟩
  · rw [h1] at HS
    have HZ := Lib.hid (size_any h hi h4)
    rw [← h3] at HZ
    rw [h2]
    clear h h1 h2 h3 h4
    generalize its[i].l.length = n at *
    go_enter Try.func27, Try.ntmps27
    go_wp2_with fail
    refine HS.out.mono ?_
    rintro e w1 ⟨rfl, rfl⟩
    go_wp2_with fail
    refine HZ.out.mono ?_
    rintro e w1 ⟨rfl, rfl⟩
    go_wp2
    go_ret
    exact ⟨rfl, rfl⟩
theorem len_nil (r : Int) (w : World) : Calls Try.prog 27 #[.pointer none, .int .i64 r] w fun e w' => e = .returned (.int .i64 0) ∧ w = w' := by
  have HS := Lib.hid (is_nil r w)
  go_enter Try.func27, Try.ntmps27
  go_wp2_with fail
  refine HS.out.mono ?_
  rintro e w1 ⟨rfl, rfl⟩
  go_wp2
  go_ret
  exact ⟨rfl, rfl⟩
theorem id_any (h : AR w base q lim its) (r : Int) (hr : inI r) : Calls Try.prog 16 #[.pointer (some ⟨q.g, 0, none⟩), .int .i64 r] w fun e w' => e = .returned (.int .i64 (get its r).id) ∧ Below w.heap.size w w' := by
  have HS := Lib.hid (is_any h r hr)
  rcases find_cases its r with ⟨h1, _, h2⟩ | ⟨i, hi, h1, _, h2, h3, h4⟩
  · rw [h1] at HS
    have HE := Lib.hid (show (get its r).id = 0 by rw [h2]; rfl)
    clear h h1 h2
    go_enter Try.func16, Try.ntmps16
    go_wp2_with fail
    refine HS.out.mono ?_
    rintro e w1 ⟨rfl, rfl⟩
    go_wp2
    go_ret
    exact ⟨by rw [HE.out]; rfl, Below.refl _ _⟩
  · rw [h1] at HS
    obtain ⟨a, n, hF, _⟩ := h.fd hi h4
    rw [h2]
    subst h3
    generalize its[i] = x at *
    generalize sumw (its.take i) = r at *
    obtain ⟨c1, w0, w1, w2, w3, wl, le, nl, fz, ok, _⟩ := hF
    have hid := ok.id
    have hw := ok.wd
    clear h h1 h2 h4 ok wl fz w0 w3 hi
    generalize x.id = y at *
    have HID := Lib.hid (or_id (y := y) (by omega) (by omega))
    have e1 : IntKind.i64.wrap ((r : Int) + 1) = ((r + 1 : Nat) : Int) := by rw [IntWalk.i64_in _ (by omega)]; omega
    have e2 : IntKind.i64.wrap ((r : Int) + 2) = ((r + 2 : Nat) : Int) := by rw [IntWalk.i64_in _ (by omega)]; omega
    have k1 : ((r + 1 : Nat) : Int) < (n : Int) := by omega
    have k2 : ((r + 2 : Nat) : Int) < (n : Int) := by omega
    go_enter Try.func16, Try.ntmps16
    go_wp2_with fail
    refine HS.out.mono ?_
    rintro e w1 ⟨rfl, rfl⟩
    go_wp2_with fail
    go_quiet (fail)
    go_wp2
    go_ret
    exact ⟨by conv => rhs; rw [← HID.out]
              rfl, belowN (Below.refl _ _) _⟩
theorem id_nil (r : Int) (w : World) : Calls Try.prog 16 #[.pointer none, .int .i64 r] w fun e w' => e = .returned (.int .i64 0) ∧ w = w' := by
  have HS := Lib.hid (is_nil r w)
  go_enter Try.func16, Try.ntmps16
  go_wp2_with fail
  refine HS.out.mono ?_
  rintro e w1 ⟨rfl, rfl⟩
  go_wp2
  go_ret
  exact ⟨rfl, rfl⟩
theorem lbd_any (h : AR w base q lim its) (r : Int) (hr : inI r) : Calls Try.prog 23 #[.pointer (some ⟨q.g, 0, none⟩), .int .i64 r] w fun e w' => e = .returned (.tuple #[.int .i64 (get its r).lbd, .int .i64 (get its r).used]) ∧ w = w' := by
  have HS := Lib.hid (is_any h r hr)
  rcases find_cases its r with ⟨h1, _, h2⟩ | ⟨i, hi, h1, _, h2, h3, h4⟩
  · rw [h1] at HS
    rw [h2]
    clear h h1 h2
    go_enter Try.func23, Try.ntmps23
    go_wp2_with fail
    refine HS.out.mono ?_
    rintro e w1 ⟨rfl, rfl⟩
    go_wp2
    go_ret2
    exact ⟨rfl, rfl⟩
  · rw [h1] at HS
    obtain ⟨a, n, hF, _⟩ := h.fd hi h4
    rw [h2]
    subst h3
    generalize its[i] = x at *
    generalize sumw (its.take i) = r at *
    obtain ⟨c1, w0, w1, w2, w3, wl, le, nl, fz, ok, _⟩ := hF
    have hw := ok.wd
    obtain ⟨hl0, hl1⟩ := ok.lbd
    obtain ⟨hu0, hu1⟩ := ok.used
    clear h h1 h2 h4 ok wl fz w0 w1 w2 hi
    generalize x.lbd = y at *
    generalize x.used = z at *
    have e1 : IntKind.i64.wrap ((r : Int) + 3) = ((r + 3 : Nat) : Int) := by rw [IntWalk.i64_in _ (by omega)]; omega
    have k1 : ((r + 3 : Nat) : Int) < (n : Int) := by omega
    have q1 : (y * 65536 + z) / 65536 = y := by omega
    have q2 : bits .and .u32 (y * 65536 + z) 65535 = z := by rw [and16 _ (by omega) (by omega)]; omega
    go_enter Try.func23, Try.ntmps23
    go_wp2_with fail
    refine HS.out.mono ?_
    rintro e w1 ⟨rfl, rfl⟩
    go_wp2
    go_ret2
    exact ⟨rfl, rfl⟩
theorem lbd_nil (r : Int) (w : World) : Calls Try.prog 23 #[.pointer none, .int .i64 r] w fun e w' => e = .returned (.tuple #[.int .i64 0, .int .i64 0]) ∧ w = w' := by
  have HS := Lib.hid (is_nil r w)
  go_enter Try.func23, Try.ntmps23
  go_wp2_with fail
  refine HS.out.mono ?_
  rintro e w1 ⟨rfl, rfl⟩
  go_wp2
  go_ret2
  exact ⟨rfl, rfl⟩
theorem red_any (h : AR w base q lim its) (r : Int) (hr : inI r) : Calls Try.prog 17 #[.pointer (some ⟨q.g, 0, none⟩), .int .i64 r] w fun e w' => e = .returned (.bool (get its r).red) ∧ w = w' := by
  have HS := Lib.hid (is_any h r hr)
  rcases find_cases its r with ⟨h1, _, h2⟩ | ⟨i, hi, h1, _, h2, h3, h4⟩
  · rw [h1] at HS
    rw [h2]
    clear h h1 h2
    go_enter Try.func17, Try.ntmps17
    go_wp2_with fail
    refine HS.out.mono ?_
    rintro e w1 ⟨rfl, rfl⟩
    go_wp2
    go_ret
    exact ⟨rfl, rfl⟩
  · rw [h1] at HS
    obtain ⟨a, n, hF, _⟩ := h.fd hi h4
    rw [h2]
    subst h3
    generalize its[i] = x at *
    generalize sumw (its.take i) = r at *
    obtain ⟨c1, w0, w1, w2, w3, wl, le, nl, fz, ok, lv⟩ := hF
    have hw := ok.wd
    have hbd := hdI_bd x
    have k1 : (r : Int) < (n : Int) := by omega
    have k2 : r < n := by omega
    have q1 : bits .and .u32 (hdI x) 2 = if x.red then 2 else 0 := by
      rw [and2 _ (by omega) (by omega)]
      unfold hdI
      rw [lv]
      rcases x.red <;> simp <;> omega
    clear h h1 h2 h4 ok wl fz w3 w1 w2 hi hbd lv
    generalize hdI x = u at *
    generalize x.red = b at *
    rcases b with _ | _
    all_goals
      go_enter Try.func17, Try.ntmps17
      go_wp2_with fail
      refine HS.out.mono ?_
      rintro e w1 ⟨rfl, rfl⟩
      go_wp2
      go_ret
      exact ⟨rfl, rfl⟩
theorem red_nil (r : Int) (w : World) : Calls Try.prog 17 #[.pointer none, .int .i64 r] w fun e w' => e = .returned (.bool false) ∧ w = w' := by
  have HS := Lib.hid (is_nil r w)
  go_enter Try.func17, Try.ntmps17
  go_wp2_with fail
  refine HS.out.mono ?_
  rintro e w1 ⟨rfl, rfl⟩
  go_wp2
  go_ret
  exact ⟨rfl, rfl⟩
theorem words_any (h : AR w base q lim its) : Calls Try.prog 13 #[.pointer (some ⟨q.g, 0, none⟩)] w fun e w' => e = .returned (.tuple #[.int .i64 (sumw its : Nat), .int .i64 (waste its : Nat)]) ∧ Below w.heap.size w w' := by
  have c1 : w.cell? ⟨q.g, 1, none⟩ = some (.slice q.A (sumw its) q.c) := h.blk.cell 1
  have c3 : w.cell? ⟨q.g, 3, none⟩ = some (.int .i64 (waste its : Nat)) := h.blk.cell 3
  clear h
  go_enter Try.func13, Try.ntmps13
  go_wp2_with fail
  go_quiet (fail)
  go_wp2
  go_ret2
  exact ⟨rfl, belowN (Below.refl _ _) _⟩
theorem words_nil (w : World) : Calls Try.prog 13 #[.pointer none] w fun e w' => e = .returned (.tuple #[.int .i64 0, .int .i64 0]) ∧ w = w' := by
  go_enter Try.func13, Try.ntmps13
  go_wp2
  go_ret2
  exact ⟨rfl, rfl⟩
end
end Go.Proofs.Ytenadnmglhghiaa.Ar
