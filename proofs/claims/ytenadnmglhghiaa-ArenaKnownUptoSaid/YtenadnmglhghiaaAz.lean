/- The document's arena: Put. Conditions: the memory. -/
import Derived.Test.YtenadnmglhghiaaAy
namespace Go.Proofs.Ytenadnmglhghiaa.Ar
open Go.RowKit Go.Proofs.Ytenadnmglhghiaa.Mem Go.Proofs.Ytenadnmglhghiaa.Sl Go.Shelf
open Go.Proofs.Ytenadnmglhghiaa.FnL (enc_at below_then)
set_option linter.unusedVariables false

section
variable {w : World} {base gd c : Nat} {S : Nat → Prop} {A : Option Addr} {lim : Int} {z : List (Itm × LAd)}
def RPutR (w : World) (base : Nat) (S : Nat → Prop) (gd : Nat) (lim : Int) (its : List Itm) (id : Int) (l : List Int) (red : Bool) (lbd : Int) (e : Ending) (w' : World) : Prop :=
  e = .returned (.tuple #[.int .i64 (putM its lim id l red lbd).1, .int .i64 (putM its lim id l red lbd).2.1]) ∧ RN w w' base S gd lim (putM its lim id l red lbd).2.2
set_option maxRecDepth 100000 in
set_option maxHeartbeats 4000000 in
theorem rput_any (h : RA w base S gd A c lim z) (hbw : base ≤ w.heap.size) (id : Int) (hid : inI id) (A2 : Option Addr) (n2 c2 : Nat) (l : List Int) (hn : n2 = l.length) (hc2 : A2 = none → c2 = 0) (hr : RdV w A2 (LI l)) (hb : ∀ y, y ∈ l → -2147483648 ≤ y ∧ y ≤ 2147483647) (hmx : n2 ≤ 4000000) (red : Bool) (lbd : Int) (hl : inI lbd) :
    Calls Try.prog 40 #[.pointer (some ⟨gd, 0, none⟩), .int .i64 id, .slice A2 n2 c2, .bool red, .int .i64 lbd] w (RPutR w base S gd lim (itm z) id l red lbd) := by
  have HSM := Lib.hid (small_any lbd w)
  have H := Lib.hid h
  by_cases hbad : id < 1 ∨ 4611686018427387903 < id ∨ lbd < 0 ∨ 65535 < lbd
  · have HE := Lib.hid (show RPutR w base S gd lim (itm z) id l red lbd (.returned (.tuple #[.int .i64 0, .int .i64 2])) w from by
      unfold RPutR
      rw [show putM (itm z) lim id l red lbd = (0, 2, itm z) from if_pos hbad]
      exact ⟨rfl, RN.of h rfl (Mod.refl _ _) hbw⟩)
    by_cases p1 : id < 1
    · clear hbad h hr hb hn hc2 H HSM
      go_enter Try.func40, Try.ntmps40
      go_wp2
      go_ret2
      exact HE.out
    by_cases p2 : 4611686018427387903 < id
    · clear hbad h hr hb hn hc2 H HSM
      go_enter Try.func40, Try.ntmps40
      go_wp2
      go_ret2
      exact HE.out
    have hsm : smallB lbd = false := decide_eq_false (by omega)
    rw [hsm] at HSM
    clear hbad h hr hb hn hc2 H hsm
    go_enter Try.func40, Try.ntmps40
    go_wp2_with fail
    refine HSM.out.mono ?_
    rintro e w1 ⟨rfl, rfl⟩
    go_wp2
    go_ret2
    exact HE.out
  have hsm : smallB lbd = true := decide_eq_true (by omega)
  rw [hsm] at HSM
  have p1 : ¬ id < 1 := by omega
  have p2 : ¬ 4611686018427387903 < id := by omega
  have HYES := Lib.hid (fun (k : Nat) (hk : k < l.length) (e : l[k] = 0) => show RPutR w base S gd lim (itm z) id l red lbd (.returned (.tuple #[.int .i64 0, .int .i64 4])) w from by
    have h0 : hasL l 0 = true := by unfold hasL; simp; rw [← e]; exact List.getElem_mem hk
    unfold RPutR
    rw [show putM (itm z) lim id l red lbd = (0, 4, itm z) from (if_neg hbad).trans (if_pos h0)]
    exact ⟨rfl, RN.of h rfl (Mod.refl _ _) hbw⟩)
  have HB := Lib.hid hb
  have HR := Lib.hid hr
  have HN := Lib.hid hn
  have hl0 := h.l0
  have hl1 := h.l1
  have c0 : w.cell? ⟨gd, 0, none⟩ = some (.int .i64 lim) := h.blk.cell 0
  have c1 : w.cell? ⟨gd, 1, none⟩ = some (.slice A z.length c) := h.blk.cell 1
  have c3 : w.cell? ⟨gd, 2, none⟩ = some (.int .i64 (sumw (itm z) : Nat)) := h.blk.cell 2
  clear h hr hb hn hsm
  go_enter Try.func40, Try.ntmps40
  go_wp2_with fail
  refine HSM.out.mono ?_
  rintro e w1 ⟨rfl, rfl⟩
  go_wp2_with fail
  go_loopw [12] (fun i wr => ∃ k : Nat, k ≤ n2 ∧ i = .int .i64 k ∧ (∀ j (hj : j < l.length), j < k → ¬ l[j] = 0) ∧ w = wr) (fun i _ => n2 - (intOf i).toNat)
  case atStart => exact ⟨0, Nat.zero_le _, rfl, fun j _ hj => by omega, rfl⟩
  case round =>
    obtain ⟨k, hk, rfl, hno, rfl⟩ := hrel
    have HNO := Lib.hid hno
    clear hno
    by_cases hlt : k < n2
    · have hkl : k < l.length := by have := HN.out; omega
      obtain ⟨b, off, eA, hbl, hcc⟩ := HR.out (by unfold LI; rw [List.length_map]; omega)
      have d0 : w.cell? ⟨b, off + k, none⟩ = some (.int .i32 l[k]) := hcc k _ (by unfold LI; rw [List.getElem?_map, List.getElem?_eq_getElem hkl]; rfl)
      subst eA
      have HY := Lib.hid (HYES.out k hkl)
      have HNX := Lib.hid (fun (hx : ¬ l[k] = 0) => show ∀ j (hj : j < l.length), j < k + 1 → ¬ l[j] = 0 from fun j hj hjk => by
        by_cases e : j = k
        · subst e; exact hx
        · exact HNO.out j hj (by omega))
      generalize l[k] = x at *
      clear hcc hkl
      by_cases h0 : x = 0
      · have HE := Lib.hid (HY.out h0)
        subst h0
        go_wp2
        go_ret2
        exact HE.out
      · have HX := Lib.hid (HNX.out h0)
        go_wp2
        go_roundw
        case rel => exact ⟨k + 1, by omega, by go_num, HX.out, True.intro⟩
        case measure => simp [intOf]; omega
    · have hh0 : hasL l 0 = false := by
        rcases hq : hasL l 0 with _ | _
        · rfl
        unfold hasL at hq
        obtain ⟨j, hj, e⟩ := List.getElem_of_mem (List.contains_iff_mem.1 hq)
        exact absurd e (HNO.out j hj (by have := HN.out; omega))
      obtain ⟨s, hs⟩ : ∃ s, sumw (itm z) = s := ⟨_, rfl⟩
      rw [hs] at hl1 c3
      have e1 : IntKind.i64.wrap ((s : Int) + 4) = s + 4 := IntWalk.i64_in _ (by omega)
      have e2 : IntKind.i64.wrap ((s : Int) + 4 + n2) = s + 4 + n2 := IntWalk.i64_in _ (by omega)
      have e3 : IntKind.i64.wrap (4 + (n2 : Int)) = 4 + n2 := IntWalk.i64_in _ (by omega)
      by_cases hfull : lim < (s : Int) + 4 + n2
      · have HE := Lib.hid (fun w' (hb : Below w.heap.size w w') => show RPutR w base S gd lim (itm z) id l red lbd (.returned (.tuple #[.int .i64 0, .int .i64 90])) w' from by
          unfold RPutR
          rw [show putM (itm z) lim id l red lbd = (0, 90, itm z) from ((if_neg hbad).trans (if_neg (by rw [hh0]; decide))).trans (if_pos (by have := HN.out; rw [hs]; omega))]
          exact ⟨rfl, RN.of (H.out.below hb) rfl (Mod.none_ hb S) hbw⟩)
        clear hbad hh0 hs
        go_wp2_with fail
        go_quiet (fail)
        go_wp2
        go_ret2
        exact HE.out _ (belowN (Below.refl _ _) _)
      have HPM := Lib.hid (show putM (itm z) lim id l red lbd = (((s : Nat) : Int), (0 : Int), itm z ++ [⟨4 + l.length, id, l, red, lbd, 0, false⟩]) from by
        rw [← hs]
        exact ((if_neg hbad).trans (if_neg (by rw [hh0]; decide))).trans (if_neg (by have := HN.out; rw [hs]; omega)))
      have hzl := zlen_le H.out
      have HOK := Lib.hid (show IOk ⟨4 + l.length, id, l, red, lbd, 0, false⟩ from ⟨Nat.le_refl _, by show 1 ≤ id ∧ id ≤ _; omega, HB.out, by show 0 ≤ lbd ∧ lbd ≤ _; omega, by show (0 : Int) ≤ 0 ∧ (0 : Int) ≤ 65535; decide⟩)
      have HS := Lib.hid hs
      clear hbad hh0 hs
      go_wp2_with fail
      go_quiet (fail)
      have HBW := Lib.hid (show Below w.heap.size w (w.drewN nq) from belowN (Below.refl _ _) nq)
      generalize w.drewN nq = W0 at *
      have HRW := Lib.hid (HR.out.below HBW.out)
      have hk1 : 0 + n2 ≤ 400000000 := by omega
      clear c0 c1 c3
      go_upto_region 12 with (at_builtin; refine wpAppC rfl _ _ rfl w.heap.size none 0 0 [] rfl (App.Own.nil _ _ _) A2 n2 c2 l rfl HN.out HRW.out hc2 hk1 HBW.out.size n2 (by omega) ?_; intro A3 c4 w3 hO3 hm3; have HO3 := Lib.hid hO3; have HB3 := Lib.hid (HBW.out.trans (hm3.below (B := w.heap.size) (fun i _ e => by cases e) HBW.out.size)); clear hO3 hm3)
      obtain ⟨P, hP⟩ : ∃ P : Itm × LAd, P = (⟨4 + l.length, id, l, red, lbd, 0, false⟩, ⟨A3, c4⟩) := ⟨_, rfl⟩
      have hcd : (cellsD s P).toArray = #[.int .i64 (s : Nat), .int .i64 (4 + (n2 : Int)), .int .i64 id, .slice A3 n2 c4, .bool red, .int .i64 lbd, .int .i64 0, .bool false] := by
        rw [hP]
        unfold cellsD
        rw [← HN.out]
        simp
      have hF := fun gA c' w2 => rput_fin (W := w3) H.out hbw HB3.out P (by rw [hP]; exact HOK.out) (by rw [hP, ← HN.out]; exact HO3.out) (by rw [hP, HS.out]; show ((s : Int) + (4 + l.length : Nat)) ≤ lim; have := HN.out; omega) gA c' w2
      rw [HS.out, hcd] at hF
      have hP1 : P.1 = ⟨4 + l.length, id, l, red, lbd, 0, false⟩ := by rw [hP]
      have hPw : ((s + P.1.wd : Nat) : Int) = (s : Int) + 4 + n2 := by rw [hP1]; show ((s + (4 + l.length) : Nat) : Int) = _; have := HN.out; omega
      rw [hP1, show ((s + (⟨4 + l.length, id, l, red, lbd, 0, false⟩ : Itm).wd : Nat) : Int) = (s : Int) + 4 + n2 from by rw [← hPw, hP1]] at hF
      have HFIN := Lib.hid hF
      have H3 := Lib.hid (H.out.below HB3.out)
      have hbw3 : base ≤ w3.heap.size := Nat.le_trans hbw HB3.out.size
      have HBA := Lib.hid (show Below w3.heap.size w3 (w3.alloc (.cells #[.int .i64 (s : Nat), .int .i64 (4 + (n2 : Int)), .int .i64 id, .slice A3 n2 c4, .bool red, .int .i64 lbd, .int .i64 0, .bool false] 92)).drew from (((Below.refl _ w3).alloc (Nat.le_refl _) _).drew))
      have HA := Lib.hid (H3.out.below HBA.out)
      have HSZ := Lib.hid (show (w3.alloc (.cells #[.int .i64 (s : Nat), .int .i64 (4 + (n2 : Int)), .int .i64 id, .slice A3 n2 c4, .bool red, .int .i64 lbd, .int .i64 0, .bool false] 92)).drew.heap.size = w3.heap.size + 1 by show (w3.alloc _).heap.size = _; simp)
      have HOR := Lib.hid (show Blk (w3.alloc (.cells #[.int .i64 (s : Nat), .int .i64 (4 + (n2 : Int)), .int .i64 id, .slice A3 n2 c4, .bool red, .int .i64 lbd, .int .i64 0, .bool false] 92)).drew w3.heap.size 92 (cellsD s P).toArray from by rw [hcd]; exact Blk.new w3 _ _)
      have hbw1 : base ≤ ((w3.alloc (.cells #[.int .i64 (s : Nat), .int .i64 (4 + (n2 : Int)), .int .i64 id, .slice A3 n2 c4, .bool red, .int .i64 lbd, .int .i64 0, .bool false] 92)).drew).heap.size := by have := HSZ.out; omega
      have q1 : w3.cell? ⟨gd, 1, none⟩ = some (.slice A z.length c) := H3.out.blk.cell 1
      have q2 : w3.cell? ⟨gd, 2, none⟩ = some (.int .i64 (s : Nat)) := by have := H3.out.blk.cell 2; rw [HS.out] at this; exact this
      have q3 : (w3.alloc (.cells #[.int .i64 (s : Nat), .int .i64 (4 + (n2 : Int)), .int .i64 id, .slice A3 n2 c4, .bool red, .int .i64 lbd, .int .i64 0, .bool false] 92)).cell? ⟨gd, 1, none⟩ = some (.slice A z.length c) := HA.out.blk.cell 1
      have q4 : (w3.alloc (.cells #[.int .i64 (s : Nat), .int .i64 (4 + (n2 : Int)), .int .i64 id, .slice A3 n2 c4, .bool red, .int .i64 lbd, .int .i64 0, .bool false] 92)).drew.cell? ⟨gd, 1, none⟩ = some (.slice A z.length c) := HA.out.blk.cell 1
      have hzl4 : z.length ≤ 400000000 := by omega
      clear hP hcd hP1 hPw hF
      go_region_law ((refine stepAppD (by rfl) _ _ (by rfl) base A z.length c (rowsD 0 z) (by rfl) HA.out.row w3.heap.size s P (by rfl) HOR.out hzl4 hbw1 (w3.heap.size + 1) HSZ.out ?_; intro gA c' w2 hO hM hwh; obtain ⟨k5, k6, k7, k8⟩ := HFIN.out gA c' w2 hO hM hwh; obtain ⟨k9, k10⟩ := k7 (.slice (some ⟨gA, 0, none⟩) (z.length + 1) c'); have HT := Lib.hid k8; clear hO hM hwh k7 k8))
      all_goals clear q1 q2 q3 q4

      all_goals go_wp2

      all_goals go_ret2
      all_goals exact (by unfold RPutR; rw [HPM.out]; exact ⟨rfl, HT.out⟩)
end
end Go.Proofs.Ytenadnmglhghiaa.Ar
