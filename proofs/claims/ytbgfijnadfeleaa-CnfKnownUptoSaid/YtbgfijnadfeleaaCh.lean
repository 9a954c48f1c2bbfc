/- Is a literal in a clause, is a clause in another, are two the same: the program's and the document's, at any clauses. No condition but the memory. -/
import Derived.Test.YtbgfijnadfeleaaCm
namespace Go.Proofs.Ytbgfijnadfeleaa.Ch
open Go.RowKit Go.Proofs.Ytbgfijnadfeleaa.Mem Go.Proofs.Ytbgfijnadfeleaa.Sl Go.Proofs.Ytbgfijnadfeleaa.Cl Go.Proofs.Ytbgfijnadfeleaa.Cm Go.Shelf
open Go.Proofs.Ytbgfijnadfeleaa.FnL (Pred enc_at below_then)
set_option linter.unusedVariables false

def hasB (l : List Int) (x : Int) : Bool := l.contains x
theorem hasB_snoc {l : List Int} {k : Nat} (h : k < l.length) (x : Int) (hf : hasB (l.take k) x = false) : hasB (l.take (k + 1)) x = (x == (l[k]'h)) := by
  unfold hasB at *
  rw [List.take_succ_eq_append_getElem h, List.contains_append, hf]; by_cases e : x = l[k] <;> simp [e]
theorem hasB_at {l : List Int} {k : Nat} (h : k < l.length) (x : Int) (e : x = l[k]'h) : hasB l x = true := by rw [e]; unfold hasB; simp
theorem has_any {w : World} (a : Option Addr) (n c : Nat) (l : List Int) (x : Int) (hn : n = l.length) (hm : n ≤ 9223372036854775807) (hr : RdV w a (LI l)) :
    Calls Try.prog 39 #[.slice a n c, .int .i32 x] w fun e w' => e = .returned (.bool (hasB l x)) ∧ w = w' := by
  have HR := Lib.hid hr
  have HN := Lib.hid hn
  clear hr hn
  go_enter Try.func39, Try.ntmps39
  go_wp2_with fail
  go_loop [5] (fun i => ∃ k : Nat, k ≤ n ∧ i = .int .i64 k ∧ hasB (l.take k) x = false) (fun i => n - (intOf i).toNat)
  case atStart => exact ⟨0, Nat.zero_le _, rfl, rfl⟩
  case round =>
    obtain ⟨k, hk, rfl, hf⟩ := hrel
    have HF := Lib.hid hf
    clear hf
    by_cases hlt : k < n
    · have hkl : k < l.length := by rw [← HN.out]; exact hlt
      obtain ⟨b, off, ha, hbl, hc⟩ := RdV.at_ HR.out (enc_at (enc := Value.int .i32) hkl)
      subst ha
      have HT := Lib.hid (show hasB (l.take (k + 1)) x = (x == (l[k]'hkl)) from hasB_snoc hkl x HF.out)
      have HA := Lib.hid (show x = l[k]'hkl → hasB l x = true from hasB_at hkl x)
      generalize l[k]'hkl = y at *
      clear hkl hbl
      by_cases hy : y = x
      · have HE := Lib.hid (HA.out hy.symm)
        subst hy
        go_wp2
        go_ret
        exact ⟨by rw [HE.out]; rfl, rfl⟩
      · have HE := Lib.hid (HT.out.trans (show (x == y) = false by simpa using fun e => hy e.symm))
        go_wp2
        go_round
        case rel => exact ⟨k + 1, by omega, by go_num, HE.out⟩
        case measure => simp [intOf]; omega
    · have HE := Lib.hid (show hasB l x = false by
        have := HF.out
        rwa [List.take_of_length_le (by rw [← HN.out]; omega)] at this)
      go_wp2
      go_ret
      exact ⟨by rw [HE.out]; rfl, rfl⟩
theorem index_any {w : World} (a : Option Addr) (n c : Nat) (l : List Int) (x : Int) (hn : n = l.length) (hm : n ≤ 9223372036854775807) (hr : RdV w a (LI l)) :
    Calls Try.prog 52 #[.slice a n c, .int .i32 x] w fun e w' => (∃ i, e = .returned (.int .i64 i) ∧ decide (0 ≤ i) = hasB l x) ∧ w = w' := by
  have HR := Lib.hid hr
  have HN := Lib.hid hn
  clear hr hn
  go_enter Try.func52, Try.ntmps52
  go_wp2_with fail
  go_loop [5, 8] (fun z i => ∃ k : Nat, k ≤ n ∧ i = .int .i64 k ∧ hasB (l.take k) x = false) (fun _ i => n - (intOf i).toNat)
  case atStart => exact ⟨0, Nat.zero_le _, rfl, rfl⟩
  case round =>
    obtain ⟨k, hk, rfl, hf⟩ := hrel
    have HF := Lib.hid hf
    clear hf
    by_cases hlt : k < n
    · have hkl : k < l.length := by rw [← HN.out]; exact hlt
      obtain ⟨b, off, ha, hbl, hc⟩ := RdV.at_ HR.out (enc_at (enc := Value.int .i32) hkl)
      subst ha
      have HT := Lib.hid (show hasB (l.take (k + 1)) x = (x == (l[k]'hkl)) from hasB_snoc hkl x HF.out)
      have HA := Lib.hid (show x = l[k]'hkl → hasB l x = true from hasB_at hkl x)
      generalize l[k]'hkl = y at *
      clear hkl hbl
      by_cases hy : x = y
      · have HE := Lib.hid (HA.out hy)
        subst hy
        go_wp2
        go_ret
        exact ⟨⟨_, rfl, by rw [HE.out]; simp⟩, rfl⟩
      · have HE := Lib.hid (HT.out.trans (show (x == y) = false by simpa using hy))
        go_wp2
        go_round
        case rel => exact ⟨k + 1, by omega, by go_num, HE.out⟩
        case measure => simp [intOf]; omega
    · have HE := Lib.hid (show hasB l x = false by
        have := HF.out
        rwa [List.take_of_length_le (by rw [← HN.out]; omega)] at this)
      go_wp2
      go_ret
      exact ⟨⟨_, rfl, by rw [HE.out]; simp⟩, rfl⟩
theorem contains_any {w : World} (a : Option Addr) (n c : Nat) (l : List Int) (x : Int) (hn : n = l.length) (hm : n ≤ 9223372036854775807) (hr : RdV w a (LI l)) :
    Calls Try.prog 41 #[.slice a n c, .int .i32 x] w fun e w' => e = .returned (.bool (hasB l x)) ∧ w = w' := by
  have HI := Lib.hid (index_any a n c l x hn hm hr)
  clear hr hn
  go_enter Try.func41, Try.ntmps41
  go_wp2_with fail
  refine HI.out.mono ?_
  rintro e w1 ⟨⟨i, rfl, hi⟩, rfl⟩
  have HH := Lib.hid hi
  clear hi
  go_wp2
  go_ret
  exact ⟨by rw [← HH.out]; rfl, rfl⟩
def subB (a b : List Int) : Bool := a.all fun x => hasB b x
def sameB (a b : List Int) : Bool := subB a b && subB b a
theorem rSub_any {B : Nat} {w : World} (x y : CV) (hx : ClOk B w x) (hy : ClOk B w y) (hB : B ≤ w.heap.size) :
    Calls Try.prog 23 #[x.v, y.v] w fun e w' => e = .returned (.bool (subB x.l y.l)) ∧ w = w' := by
  obtain ⟨A, N, C, l⟩ := x
  obtain ⟨A2, N2, C2, l2⟩ := y
  have HX := Lib.hid (hx.rd.rd hB)
  have HL := Lib.hid (show N = l.length from hx.ln)
  have hmx := hx.mx
  have HH := Lib.hid (fun z => has_any A2 N2 C2 l2 z hy.ln hy.mx (hy.rd.rd hB))
  dsimp only at hmx
  show Calls _ _ #[.slice A N C, .slice A2 N2 C2] _ _
  clear hx hy hB
  go_enter Try.func23, Try.ntmps23
  go_wp2_with fail
  go_loop [5] (fun i => ∃ k : Nat, k ≤ N ∧ i = .int .i64 k ∧ (l.take k).all (fun x => hasB l2 x) = true) (fun i => N - (intOf i).toNat)
  case atStart => exact ⟨0, Nat.zero_le _, rfl, rfl⟩
  case round =>
    obtain ⟨k, hk, rfl, hf⟩ := hrel
    have HF := Lib.hid hf
    clear hf
    by_cases hlt : k < N
    · have hkl : k < l.length := by rw [← HL.out]; exact hlt
      obtain ⟨b, off, ha, hbl, hc⟩ := RdV.at_ HX.out (enc_at (enc := Value.int .i32) hkl)
      subst ha
      have HT := Lib.hid (show (l.take (k + 1)).all (fun x => hasB l2 x) = hasB l2 (l[k]'hkl) by rw [List.take_succ_eq_append_getElem hkl, List.all_append, HF.out]; simp)
      have HA := Lib.hid (show hasB l2 (l[k]'hkl) = false → subB l l2 = false from fun h => by
        unfold subB
        rw [List.all_eq_false]
        exact ⟨_, List.getElem_mem hkl, by rw [h]; simp⟩)
      generalize l[k]'hkl = y at *
      clear hkl hbl
      have HC := Lib.hid (HH.out y)
      go_wp2_with fail
      refine HC.out.mono ?_
      rintro e w1 ⟨rfl, rfl⟩
      cases hy : hasB l2 y with
      | true =>
        have HE := Lib.hid (HT.out.trans hy)
        clear hy
        go_wp2
        go_round
        case rel => exact ⟨k + 1, by omega, by go_num, HE.out⟩
        case measure => simp [intOf]; omega
      | false =>
        have HE := Lib.hid (HA.out hy)
        clear hy
        go_wp2
        go_ret
        exact ⟨by rw [HE.out]; rfl, rfl⟩
    · have HE := Lib.hid (show subB l l2 = true by
        have := HF.out
        rwa [List.take_of_length_le (by rw [← HL.out]; omega)] at this)
      go_wp2
      go_ret
      exact ⟨by rw [HE.out]; rfl, rfl⟩
theorem rSame_any {B : Nat} {w : World} (x y : CV) (hx : ClOk B w x) (hy : ClOk B w y) (hB : B ≤ w.heap.size) :
    Calls Try.prog 21 #[x.v, y.v] w fun e w' => e = .returned (.bool (sameB x.l y.l)) ∧ w = w' := by
  have H1 := Lib.hid (rSub_any x y hx hy hB)
  have H2 := Lib.hid (rSub_any y x hy hx hB)
  have HE := Lib.hid (show sameB x.l y.l = (subB x.l y.l && subB y.l x.l) from rfl)
  clear hx hy hB
  generalize sameB x.l y.l = r at *
  generalize x.v = xv at *
  generalize y.v = yv at *
  cases h : subB x.l y.l with
  | true =>
    have HE2 := Lib.hid (show r = subB y.l x.l by rw [HE.out, h]; rfl)
    rw [h] at H1
    generalize subB y.l x.l = r2 at *
    clear h
    go_enter Try.func21, Try.ntmps21
    go_wp2_with fail
    refine H1.out.mono ?_
    rintro e w1 ⟨rfl, rfl⟩
    go_wp2_with fail
    refine H2.out.mono ?_
    rintro e w1 ⟨rfl, rfl⟩
    go_wp2
    go_ret
    exact ⟨by rw [HE2.out]; rfl, rfl⟩
  | false =>
    have HE2 := Lib.hid (show r = false by rw [HE.out, h]; rfl)
    rw [h] at H1
    clear h
    go_enter Try.func21, Try.ntmps21
    go_wp2_with fail
    refine H1.out.mono ?_
    rintro e w1 ⟨rfl, rfl⟩
    go_wp2
    go_ret
    exact ⟨by rw [HE2.out]; rfl, rfl⟩
theorem sub1_any {B : Nat} {w : World} (y : CV) (hy : ClOk B w y) (hB : B ≤ w.heap.size) (x : Int) (g : Nat) (c1 : w.cell? ⟨g, 0, none⟩ = some y.v) :
    Calls Try.prog 43 #[.int .i32 x, .pointer (some ⟨g, 0, none⟩)] w fun e w' => e = .returned (.bool (!hasB y.l x)) ∧ Below w.heap.size w w' := by
  have HC := Lib.hid (contains_any y.A y.n y.c y.l x hy.ln hy.mx (hy.rd.rd hB))
  have HV : y.v = .slice y.A y.n y.c := rfl
  rw [HV] at c1
  clear HV hy
  generalize hasB y.l x = r at *
  go_enter Try.func43, Try.ntmps43
  go_wp2_with fail
  refine HC.out.mono ?_
  rintro e w1 ⟨rfl, rfl⟩
  go_wp2
  go_ret
  exact ⟨rfl, Below.refl _ _⟩
theorem any_not {a b : List Int} : (!(a.any fun x => !hasB b x)) = subB a b := by
  unfold subB
  rw [← List.not_all_eq_any_not, Bool.not_not]
theorem Sub_any {B : Nat} {w : World} (x y : CV) (hx : ClOk B w x) (hy : ClOk B w y) (hB : B ≤ w.heap.size) :
    Calls Try.prog 22 #[x.v, y.v] w fun e w' => e = .returned (.bool (subB x.l y.l)) ∧ Below w.heap.size w w' := by
  have HY := Lib.hid hy
  have HX := Lib.hid hx
  have HS := Lib.hid hB
  have HV := Lib.hid (show x.v = .slice x.A x.n x.c from rfl)
  have HE := Lib.hid (any_not (a := x.l) (b := y.l))
  clear hx hy hB
  rw [HV.out]
  go_enter Try.func22, Try.ntmps22
  go_upto_region 1 with (fail)
  obtain ⟨W, hW⟩ : ∃ W, W = (w.alloc (.cells #[y.v] 23)) := ⟨_, rfl⟩
  have HB := Lib.hid (show Below w.heap.size w W from hW ▸ ((Below.refl _ w).alloc (Nat.le_refl _) _))
  have hs : W.heap.size = w.heap.size + 1 := by rw [hW]; simp
  have k2 : W.cell? ⟨w.heap.size, 0, none⟩ = some y.v := by
    rw [hW]; simp
  have HC := Lib.hid (FnL.containsFunc_any (Value.int .i32) x.A x.c 43 #[.pointer (some ⟨w.heap.size, 0, none⟩)] (fun z => !hasB y.l z) x.l x.n HX.out.ln HX.out.mx W
    ((HX.out.below (HB.out.mono HS.out)).rd.rd (by have := HS.out; omega))
    ⟨enters_of Try.func43 (by kernel_rfl) rfl, fun z hz W2 hb2 => sub1_any (B := B) y ((HY.out.below (HB.out.mono HS.out)).below (hb2.mono (by have := HS.out; omega))) (by have := HS.out; have := hb2.size; omega) z w.heap.size
      ((hb2.cell (p := ⟨w.heap.size, 0, none⟩) (by show w.heap.size < _; omega)).trans k2)⟩)
  generalize (x.l.any fun z => !hasB y.l z) = r at *
  have HCW := Lib.hid (show Calls Try.prog 31 #[.slice x.A x.n x.c, .func (.func 43) #[] #[.pointer (some ⟨w.heap.size, 0, none⟩)]] (w.alloc (.cells #[y.v] 23)) fun e w' => e = .returned (.bool r) ∧ Below w.heap.size w w' from hW ▸ (HC.out.mono fun e w' ⟨h1, h2⟩ => ⟨h1, below_then HB.out h2 HB.out.size⟩))
  clear k2 hs HC HB hW
  go_wp2_with fail
  refine HCW.out.mono ?_
  rintro e w1 ⟨rfl, hb1⟩
  have HB1 := Lib.hid hb1
  clear hb1
  go_wp2
  go_ret
  exact ⟨by rw [← HE.out]; rfl, HB1.out⟩
theorem Same_any {B : Nat} {w : World} (x y : CV) (hx : ClOk B w x) (hy : ClOk B w y) (hB : B ≤ w.heap.size) :
    Calls Try.prog 20 #[x.v, y.v] w fun e w' => e = .returned (.bool (sameB x.l y.l)) ∧ Below w.heap.size w w' := by
  have H1 := Lib.hid (Sub_any x y hx hy hB)
  have H2 := Lib.hid (fun W (hb : Below w.heap.size w W) => Sub_any y x (hy.below (hb.mono hB)) (hx.below (hb.mono hB)) (Nat.le_trans hB hb.size))
  have HE := Lib.hid (show sameB x.l y.l = (subB x.l y.l && subB y.l x.l) from rfl)
  clear hx hy hB
  generalize sameB x.l y.l = r at *
  generalize x.v = xv at *
  generalize y.v = yv at *
  cases h : subB x.l y.l with
  | true =>
    have HE2 := Lib.hid (show r = subB y.l x.l by rw [HE.out, h]; rfl)
    rw [h] at H1
    generalize subB y.l x.l = r2 at *
    clear h
    go_enter Try.func20, Try.ntmps20
    go_wp2_with fail
    refine H1.out.mono ?_
    rintro e w1 ⟨rfl, hb1⟩
    have HB1 := Lib.hid hb1
    clear hb1
    go_wp2_with fail
    refine (H2.out w1 HB1.out).mono ?_
    rintro e w2 ⟨rfl, hb2⟩
    have HB2 := Lib.hid (below_then HB1.out hb2 HB1.out.size)
    clear hb2
    go_wp2
    go_ret
    exact ⟨by rw [HE2.out]; rfl, HB2.out⟩
  | false =>
    have HE2 := Lib.hid (show r = false by rw [HE.out, h]; rfl)
    rw [h] at H1
    clear h
    go_enter Try.func20, Try.ntmps20
    go_wp2_with fail
    refine H1.out.mono ?_
    rintro e w1 ⟨rfl, hb1⟩
    have HB1 := Lib.hid hb1
    clear hb1
    go_wp2
    go_ret
    exact ⟨by rw [HE2.out]; rfl, HB1.out⟩
end Go.Proofs.Ytbgfijnadfeleaa.Ch
