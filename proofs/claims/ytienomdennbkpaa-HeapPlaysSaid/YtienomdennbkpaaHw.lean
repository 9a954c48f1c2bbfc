/- HeapRemoves: its walk. Conditions: the memory. -/
import Derived.Test.YtienomdennbkpaaHv
namespace Go.Proofs.Ytienomdennbkpaa.He
open Go.RowKit Go.Proofs.Ytienomdennbkpaa.Mem Go.Proofs.Ytienomdennbkpaa.Sl Go.Shelf
open Go.Proofs.Ytienomdennbkpaa.FnL (enc_at below_then)
set_option linter.unusedVariables false

/-- 1, 2, .. -/
def upTo (k : Nat) : List Int := (List.range k).map fun i : Nat => (i : Int) + 1
theorem upTo_len (k : Nat) : (upTo k).length = k := by simp [upTo]
theorem upTo_mem (k : Nat) (v : Int) : v ∈ upTo k ↔ 1 ≤ v ∧ v ≤ k := by
  unfold upTo
  rw [List.mem_map]
  constructor
  · rintro ⟨i, hi, rfl⟩
    have := List.mem_range.1 hi
    omega
  · intro h
    exact ⟨(v - 1).toNat, List.mem_range.2 (by omega), by omega⟩
theorem upTo_succ (k : Nat) : upTo (k + 1) = upTo k ++ [(k : Int) + 1] := by simp [upTo, List.range_succ]
theorem push_upTo {N k : Nat} (h : k < N) : pushE N (upTo k) ((k : Int) + 1) = 0 ∧ pushL N (upTo k) ((k : Int) + 1) = upTo (k + 1) := by
  have h1 : isB N ((k : Int) + 1) = true := decide_eq_true ⟨by omega, by omega⟩
  have h2 : ¬ ((k : Int) + 1) ∈ upTo k := fun e => by have := (upTo_mem k _).1 e; omega
  unfold pushE pushL
  rw [if_pos h1, if_neg h2, if_pos h1, if_neg h2, upTo_succ]
  exact ⟨rfl, rfl⟩
theorem mod_below {B : Nat} {X : Nat → Prop} {a b c : World} (h : Mod (fun i => ¬ X i) a b) (k : Below b.heap.size b c) : Mod (fun i => ¬ X i) a c := h.then_ (Mod.none_ k _)
/-- slices.Equal of one's own two rows that are alike. -/
theorem same_own {w : World} {A A2 : Option Addr} {n n2 c c2 b b2 : Nat} {l : List Int} (h : App.Own w b 3 A n c (LZ l)) (h2 : App.Own w b2 3 A2 n2 c2 (LZ l)) (hn : n ≤ 1048576) :
    Calls Try.prog 13 #[.slice A n c, .slice A2 n2 c2] w fun e w' => e = .returned (.bool true) ∧ Below w.heap.size w w' := by
  have e1 : n = l.length := by have := h.1; rwa [LZ_len] at this
  have e2 : n2 = l.length := by have := h2.1; rwa [LZ_len] at this
  have := same_any A n c l e1 h.rd A2 n2 c2 l e2 h2.rd (by omega) (by omega)
  rwa [beq_self_eq_true] at this
set_option maxRecDepth 100000 in
set_option maxHeartbeats 4000000 in
theorem removes_any {w : World} (A : Option Addr) (n c : Nat) (sc : List Int) (hn : n = sc.length) (hr : RdB w.heap.size w A (LZ sc)) (v : Int) (hv : inI v) (hmx : n ≤ 9223372036854775807) :
    Calls Try.prog 4 #[.slice A n c, .int .i64 v] w fun e w' => e = .returned (.bool true) ∧ Below w.heap.size w w' := by
  have HWK := Lib.hid (fun W => works_any W)
  by_cases h100 : 100 < n
  · have h1 : (100 : Int) < (n : Int) := by omega
    clear hn hr hv
    go_enter Try.func4, Try.ntmps4
    go_wp2_with fail
    refine (HWK.out w).mono ?_
    rintro e w1 ⟨rfl, hb⟩
    have HB := Lib.hid hb
    clear hb
    go_wp2
    go_ret
    exact ⟨rfl, HB.out⟩
  have h1 : ¬ (100 : Int) < (n : Int) := by omega
  have hn100 : n ≤ 100 := by omega
  have HN := Lib.hid (al_new n (by omega) w)
  have HR := Lib.hid hr
  have HSL := Lib.hid hn
  have HV := Lib.hid hv
  clear hn hr hv h100 hmx
  go_enter Try.func4, Try.ntmps4
  go_wp2_with fail
  refine HN.out.mono ?_
  rintro e w1 ⟨⟨g, rfl, hA⟩, hb1⟩
  have HA1 := Lib.hid hA
  have HB1 := Lib.hid hb1
  clear hA hb1 HN
  go_wp2_with fail
  go_loopw [7] (fun i wr => ∃ (k : Nat) (s : List Int), k ≤ n ∧ i = .int .i64 k ∧ Al wr w.heap.size n g nox s (upTo k) ∧ Below w.heap.size w wr) (fun i _ => n - (intOf i).toNat)
  case atStart => exact ⟨0, _, Nat.zero_le _, rfl, HA1.out, HB1.out⟩
  case round =>
    clear HA1 HB1
    obtain ⟨k, s, hk, rfl, hA, hb⟩ := hrel
    have HA := Lib.hid hA
    have HB := Lib.hid hb
    clear hA hb
    by_cases hlt : k < n
    · obtain ⟨b, off, eA, _, ca⟩ := RdV.at_ ((HR.out.below HB.out).rd HB.out.size) (LZ_at (l := sc) (i := k) (by rw [← HSL.out]; exact hlt))
      have hlt1 : (k : Int) < (n : Int) := by omega
      subst eA
      generalize sc.getD k 0 = x at *
      have HBM := Lib.hid (al_bumpE HA.out HB.out.size (fun _ e => e.elim) ((k : Int) + 1) x)
      go_wp2_with fail
      refine HBM.out.mono ?_
      rintro e w2 ⟨bb, xx, s2, rfl, hA2, hb2, _⟩
      have HB2 := Lib.hid (HB.out.trans hb2)
      have HP := Lib.hid (al_push hA2 HB2.out.size (fun _ e => e.elim) ((k : Int) + 1))
      rw [(push_upTo hlt).1, (push_upTo hlt).2] at HP
      clear HBM hA2 hb2
      go_wp2_with fail
      refine HP.out.mono ?_
      rintro e w3 ⟨rfl, hA3, hb3, _⟩
      have HA3 := Lib.hid hA3
      have HB3 := Lib.hid (HB2.out.trans hb3)
      clear hA3 hb3 HP
      go_wp2
      go_roundw
      case rel => exact ⟨k + 1, s2, by omega, by go_num, HA3.out, HB3.out⟩
      case measure => simp [intOf]; omega
    · have hlt1 : ¬ (k : Int) < (n : Int) := by omega
      have hkn : k = n := by omega
      have HA := Lib.hid (show Al wr w.heap.size n g nox s (upTo n) from hkn ▸ HA.out)
      obtain ⟨l0, hl0⟩ := HA.out.ord
      have hlen : l0.length = n := by rw [hl0.1.length_eq, upTo_len]
      have HL0 := Lib.hid hl0
      have HLEN := Lib.hid hlen
      have HO := Lib.hid (al_ord HA.out hl0 hlen)
      clear hkn hl0 hlen
      go_wp2_with fail
      refine HO.out.mono ?_
      rintro e w2 ⟨⟨A1, c1, rfl, hO1⟩, hb2⟩
      have HO1 := Lib.hid hO1
      have HB2 := Lib.hid (below_then HB.out hb2 HB.out.size)
      have HA2 := Lib.hid (show Al w2 w.heap.size n g (fun i => A1 = some ⟨i, 0, none⟩) s (upTo n) from (HA.out.add (fun i e => .inr (own_lt hO1 e).1)).below hb2)
      have HXW := Lib.hid (show ∀ i, A1 = some ⟨i, 0, none⟩ → i < w2.heap.size from fun i e => (own_lt hO1 e).2)
      clear hO1 hb2 HO HA HB HR
      have HRM := Lib.hid (al_rem HA2.out HB2.out.size HXW.out v)
      by_cases hin : 1 ≤ v ∧ v ≤ n
      · have hb : isB n v = true := decide_eq_true hin
        have hm : v ∈ upTo n := (upTo_mem n v).2 hin
        rw [show remE n (upTo n) v = 0 by unfold remE; rw [if_pos hb, if_pos hm]] at HRM
        have hv1 : ¬ v < 1 := by omega
        have hv2 : ¬ (n : Int) < v := by omega
        have HNM := Lib.hid (show ¬ v ∈ (upTo n).erase v from fun e => by
          have := HA2.out.nd
          rw [this.erase_eq_filter, List.mem_filter] at e
          simp at e)
        have HEL := Lib.hid (show ((upTo n).erase v).length = n - 1 from by rw [List.length_erase_of_mem hm, upTo_len])
        have HPM := Lib.hid (show ((upTo n).erase v ++ [v]).Perm (upTo n) from (List.perm_append_comm (l₁ := (upTo n).erase v) (l₂ := [v])).trans (List.perm_cons_erase hm).symm)
        have HW0 := Lib.hid (show Ord s (wo v l0) ((upTo n).erase v) from by
          have hnd : l0.Nodup := HL0.out.1.nodup_iff.2 HA2.out.nd
          exact ⟨by rw [wo_erase hnd]; exact HL0.out.1.erase v, HL0.out.2.filter _⟩)
        have HR2 := Lib.hid (show remE n ((upTo n).erase v) v = 5 from by unfold remE; rw [if_pos hb, if_neg HNM.out])
        have HP2 := Lib.hid (show pushE n ((upTo n).erase v) v = 0 ∧ pushL n ((upTo n).erase v) v = (upTo n).erase v ++ [v] from by unfold pushE pushL; rw [if_pos hb, if_neg HNM.out, if_pos hb, if_neg HNM.out]; exact ⟨rfl, rfl⟩)
        clear hin hb hm
        go_wp2_with fail
        refine HRM.out.mono ?_
        rintro e w3 ⟨rfl, hA3, hb3, hm3⟩
        have HA3 := Lib.hid hA3
        have HB3 := Lib.hid (HB2.out.trans hb3)
        have HO3 := Lib.hid (HO1.out.mod hm3 (fun i _ e e2 => e2 e))
        have HXW3 := Lib.hid (fun i e => Nat.lt_of_lt_of_le (HXW.out i e) hm3.size)
        have HHS := Lib.hid (al_has hA3 v)
        rw [decide_eq_false HNM.out] at HHS
        clear hA3 hb3 hm3 HRM HA2 HB2 HO1 HXW
        go_wp2_with fail
        refine HHS.out.mono ?_
        rintro e w4 ⟨rfl, rfl⟩
        have HRM := Lib.hid (al_rem HA3.out HB3.out.size HXW3.out v)
        rw [HR2.out, List.erase_of_not_mem HNM.out] at HRM
        clear HHS
        go_wp2_with fail
        refine HRM.out.mono ?_
        rintro e w4 ⟨rfl, hA4, hb4, hm4⟩
        have HA4 := Lib.hid hA4
        have HB4 := Lib.hid (HB3.out.trans hb4)
        have HO4 := Lib.hid (HO3.out.mod hm4 (fun i _ e e2 => e2 e))
        have HXW4 := Lib.hid (fun i e => Nat.lt_of_lt_of_le (HXW3.out i e) hm4.size)
        have HO := Lib.hid (al_ord hA4 HW0.out rfl)
        clear hA4 hb4 hm4 HRM HA3 HB3 HO3 HXW3
        go_wp2_with fail
        refine HO.out.mono ?_
        rintro e w5 ⟨⟨A5, c5, rfl, hO5⟩, hb5⟩
        have HO5 := Lib.hid hO5
        have HA5 := Lib.hid (HA4.out.below hb5)
        have HB5 := Lib.hid (below_then HB4.out hb5 HB4.out.size)
        have HOB := Lib.hid (HO4.out.below hb5)
        have HXW5 := Lib.hid (fun i e => Nat.lt_of_lt_of_le (HXW4.out i e) hb5.size)
        have HWO := Lib.hid (without_any A1 n c1 l0 HLEN.out.symm HOB.out.rd (by omega) v)
        clear hO5 hb5 HO HA4 HB4 HO4 HXW4
        go_wp2_with fail
        refine HWO.out.mono ?_
        rintro e w6 ⟨⟨A6, c6, rfl, hO6⟩, hb6⟩
        have HO6 := Lib.hid hO6
        have HA6 := Lib.hid (HA5.out.below hb6)
        have HB6 := Lib.hid (below_then HB5.out hb6 HB5.out.size)
        have HOB6 := Lib.hid (HOB.out.below hb6)
        have HO56 := Lib.hid (HO5.out.below hb6)
        have HXW6 := Lib.hid (fun i e => Nat.lt_of_lt_of_le (HXW5.out i e) hb6.size)
        have hwl : (wo v l0).length ≤ 1048576 := by have := wo_len v l0; have := HLEN.out; omega
        have HSM := Lib.hid (same_own HO56.out HO6.out hwl)
        clear hO6 hb6 HWO HA5 HB5 HOB HO5 HXW5
        go_wp2_with fail
        refine HSM.out.mono ?_
        rintro e w7 ⟨rfl, hb7⟩
        have HA7 := Lib.hid (HA6.out.below hb7)
        have HB7 := Lib.hid (below_then HB6.out hb7 HB6.out.size)
        have HOB7 := Lib.hid (HOB6.out.below hb7)
        have HXW7 := Lib.hid (fun i e => Nat.lt_of_lt_of_le (HXW6.out i e) hb7.size)
        have HSZ := Lib.hid (al_size HA7.out)
        rw [HEL.out] at HSZ
        clear hb7 HSM HA6 HB6 HOB6 HO56 HO6 HXW6
        go_wp2_with fail
        refine HSZ.out.mono ?_
        rintro e w8 ⟨rfl, rfl⟩
        have HPU := Lib.hid (al_push HA7.out HB7.out.size HXW7.out v)
        rw [HP2.out.1, HP2.out.2] at HPU
        have hn1 : 1 ≤ n := by omega
        have ez : ((n - 1 : Nat) : Int) = (n : Int) - 1 := by omega
        go_wp2_with fail
        refine HPU.out.mono ?_
        rintro e w9 ⟨rfl, hA9, hb9, hm9⟩
        have HB9 := Lib.hid (HB7.out.trans hb9)
        have HOB9 := Lib.hid (HOB7.out.mod hm9 (fun i _ e e2 => e2 e))
        have HO := Lib.hid (al_ord (hA9.perm HPM.out) HL0.out HLEN.out)
        clear hA9 hb9 hm9 HPU HA7 HB7 HOB7 HXW7 HSZ
        go_wp2_with fail
        refine HO.out.mono ?_
        rintro e w10 ⟨⟨A10, c10, rfl, hO10⟩, hb10⟩
        have HB10 := Lib.hid (below_then HB9.out hb10 HB9.out.size)
        have HSM := Lib.hid (same_own hO10 (HOB9.out.below hb10) (by omega))
        clear hO10 hb10 HO HOB9 HB9
        go_wp2_with fail
        refine HSM.out.mono ?_
        rintro e w11 ⟨rfl, hb11⟩
        have HB11 := Lib.hid (below_then HB10.out hb11 HB10.out.size)
        have HWE := Lib.hid (HWK.out w11)
        clear hb11 HSM HB10
        go_wp2_with fail
        refine HWE.out.mono ?_
        rintro e w12 ⟨rfl, hb12⟩
        have HB12 := Lib.hid (below_then HB11.out hb12 HB11.out.size)
        clear hb12
        go_wp2
        go_ret
        exact ⟨rfl, HB12.out⟩
      · have hb : isB n v = false := decide_eq_false hin
        have hm : ¬ v ∈ upTo n := fun e => hin ((upTo_mem n v).1 e)
        rw [show remE n (upTo n) v = 2 by unfold remE; rw [hb]; rfl, List.erase_of_not_mem hm] at HRM
        have hvv : v < 1 ∨ (n : Int) < v := by omega
        clear hin hb hm
        go_wp2_with fail
        refine HRM.out.mono ?_
        rintro e w9 ⟨rfl, hA9, hb9, hm9⟩
        have HB9 := Lib.hid (HB2.out.trans hb9)
        have HOB9 := Lib.hid (HO1.out.mod hm9 (fun i _ e e2 => e2 e))
        have HO := Lib.hid (al_ord hA9 HL0.out HLEN.out)
        clear hA9 hb9 hm9 HRM HA2 HB2 HO1 HXW
        by_cases hv1 : v < 1
        · clear hvv
          go_wp2_with fail
          refine HO.out.mono ?_
          rintro e w10 ⟨⟨A10, c10, rfl, hO10⟩, hb10⟩
          have HB10 := Lib.hid (below_then HB9.out hb10 HB9.out.size)
          have HSM := Lib.hid (same_own hO10 (HOB9.out.below hb10) (by omega))
          clear hO10 hb10 HO HOB9 HB9
          go_wp2_with fail
          refine HSM.out.mono ?_
          rintro e w11 ⟨rfl, hb11⟩
          have HB11 := Lib.hid (below_then HB10.out hb11 HB10.out.size)
          have HWE := Lib.hid (HWK.out w11)
          clear hb11 HSM HB10
          go_wp2_with fail
          refine HWE.out.mono ?_
          rintro e w12 ⟨rfl, hb12⟩
          have HB12 := Lib.hid (below_then HB11.out hb12 HB11.out.size)
          clear hb12
          go_wp2
          go_ret
          exact ⟨rfl, HB12.out⟩
        · have hv2 : (n : Int) < v := hvv.resolve_left hv1
          clear hvv
          go_wp2_with fail
          refine HO.out.mono ?_
          rintro e w10 ⟨⟨A10, c10, rfl, hO10⟩, hb10⟩
          have HB10 := Lib.hid (below_then HB9.out hb10 HB9.out.size)
          have HSM := Lib.hid (same_own hO10 (HOB9.out.below hb10) (by omega))
          clear hO10 hb10 HO HOB9 HB9
          go_wp2_with fail
          refine HSM.out.mono ?_
          rintro e w11 ⟨rfl, hb11⟩
          have HB11 := Lib.hid (below_then HB10.out hb11 HB10.out.size)
          have HWE := Lib.hid (HWK.out w11)
          clear hb11 HSM HB10
          go_wp2_with fail
          refine HWE.out.mono ?_
          rintro e w12 ⟨rfl, hb12⟩
          have HB12 := Lib.hid (below_then HB11.out hb12 HB11.out.size)
          clear hb12
          go_wp2
          go_ret
          exact ⟨rfl, HB12.out⟩
end Go.Proofs.Ytienomdennbkpaa.He
