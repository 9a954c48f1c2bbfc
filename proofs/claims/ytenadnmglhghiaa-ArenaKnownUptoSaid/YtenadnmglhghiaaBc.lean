/- Arena, the statements' clause: what both tell of a place. Conditions: the memory, at most 1048576 literals. -/
import Derived.Test.YtenadnmglhghiaaBb
import Derived.Test.YtenadnmglhghiaaLtB
import Derived.BigQuiet
namespace Go.Proofs.Ytenadnmglhghiaa.Ar
open Go.RowKit Go.Proofs.Ytenadnmglhghiaa.Mem Go.Proofs.Ytenadnmglhghiaa.Sl Go.Shelf
open Go.Proofs.Ytenadnmglhghiaa.FnL (enc_at below_then)
open Go.Proofs.Ytenadnmglhghiaa.Lt (Later wp_region_later)
set_option linter.unusedVariables false

section
variable {w : World} {base B gd : Nat} {q : AAd} {S : Nat → Prop} {lim : Int} {its : List Itm}
theorem RX.get_any (h : RX w B S gd lim its) (r : Int) : Calls Try.prog 49 #[.pointer (some ⟨gd, 0, none⟩), .int .i64 r] w fun e w' => ∃ v, e = .returned v ∧ RItm w' B (get its r) v ∧ Below w.heap.size w w' := by
  obtain ⟨A, c, z, e, h⟩ := h
  subst e
  exact rget_any h r
theorem rdC {w : World} {b n c : Nat} {A : Option Addr} {l : List Int} (h : App.Own w b 26 A n c (LI l)) : n = l.length := by
  have := h.1
  unfold LI at this
  rwa [List.length_map] at this
set_option maxRecDepth 100000 in
set_option maxHeartbeats 4000000 in
theorem clause_any (h : AR w base q lim its) (hd : RX w B S gd lim its) (r : Int) (hr : inI r) (hl : (get its r).l.length ≤ 1048576) :
    Calls Try.prog 42 #[.pointer (some ⟨q.g, 0, none⟩), .pointer (some ⟨gd, 0, none⟩), .int .i64 r] w fun e w' => e = .returned (.bool true) ∧ Below w.heap.size w w' := by
  have HG := Lib.hid (hd.get_any r)
  have HLI := Lib.hid (fun W (hb : Below w.heap.size w W) => lits_any (h.below hb) r hr)
  have HLB := Lib.hid (fun W (hb : Below w.heap.size w W) => lbd_any (h.below hb) r hr)
  have HLN := Lib.hid (fun W (hb : Below w.heap.size w W) => len_any (h.below hb) r hr)
  have HIC := Lib.hid (fun W (hb : Below w.heap.size w W) => id_any (h.below hb) r hr)
  have HRC := Lib.hid (fun W (hb : Below w.heap.size w W) => red_any (h.below hb) r hr)
  have HLC := Lib.hid (fun W (hb : Below w.heap.size w W) i hi => lit_any (h.below hb) r hr i hi)
  clear h hd
  generalize get its r = x at *
  go_enter Try.func42, Try.ntmps42
  go_wp2_with fail
  refine HG.out.mono ?_
  rintro e w1 ⟨v, rfl, ⟨o, A', c', rfl, hO⟩, hb1⟩
  have HB1 := Lib.hid hb1
  have HO1 := Lib.hid hO
  clear hb1 hO HG
  go_wp2_with fail
  obtain ⟨W2, hW2⟩ : ∃ W2, W2 = w1.alloc (.cells #[.int .i64 (o : Nat), .int .i64 (x.wd : Nat), .int .i64 x.id, .slice A' x.l.length c', .bool x.red, .int .i64 x.lbd, .int .i64 x.used, .bool x.dead] 92) := ⟨_, rfl⟩
  rw [show w1.alloc (.cells #[.int .i64 (o : Nat), .int .i64 (x.wd : Nat), .int .i64 x.id, .slice A' x.l.length c', .bool x.red, .int .i64 x.lbd, .int .i64 x.used, .bool x.dead] 92) = W2 from hW2.symm]
  have hb2 : Below w1.heap.size w1 W2 := by rw [hW2]; exact below_al _ _
  have HX2 := Lib.hid (show Blk W2 w1.heap.size 92 #[.int .i64 (o : Nat), .int .i64 (x.wd : Nat), .int .i64 x.id, .slice A' x.l.length c', .bool x.red, .int .i64 x.lbd, .int .i64 x.used, .bool x.dead] from by rw [hW2]; exact Blk.new _ _ _)
  have HB2 := Lib.hid (below_then HB1.out hb2 HB1.out.size)
  have HO2 := Lib.hid (HO1.out.below hb2)
  clear hW2 hb2
  refine (HLI.out W2 HB2.out).mono ?_
  rintro e w3 ⟨⟨A3, c3, rfl, hO3⟩, hb3⟩
  have HB3 := Lib.hid (below_then HB2.out hb3 HB2.out.size)
  have HX3 := Lib.hid (HX2.out.below hb3)
  have HO3 := Lib.hid hO3
  have HR3 := Lib.hid (HO2.out.below hb3)
  have hs3 : W2.heap.size ≤ w3.heap.size := hb3.size
  have HS2 := Lib.hid HB2.out.size
  clear hO3 hb3
  go_wp2_with fail
  refine (HLB.out w3 HB3.out).mono ?_
  rintro e w4 ⟨rfl, rfl⟩
  go_upto_region 4 with (fail)
  have L2 : ∀ p : Later w3, p.w'.cell? ⟨w1.heap.size, 2, none⟩ = some (.int .i64 x.id) := fun p => (HX3.out.below p.h).cell 2
  have L3 : ∀ p : Later w3, p.w'.cell? ⟨w1.heap.size, 3, none⟩ = some (.slice A' x.l.length c') := fun p => (HX3.out.below p.h).cell 3
  have L4 : ∀ p : Later w3, p.w'.cell? ⟨w1.heap.size, 4, none⟩ = some (.bool x.red) := fun p => (HX3.out.below p.h).cell 4
  have L5 : ∀ p : Later w3, p.w'.cell? ⟨w1.heap.size, 5, none⟩ = some (.int .i64 x.lbd) := fun p => (HX3.out.below p.h).cell 5
  have L6 : ∀ p : Later w3, p.w'.cell? ⟨w1.heap.size, 6, none⟩ = some (.int .i64 x.used) := fun p => (HX3.out.below p.h).cell 6
  have hq : ∀ {w : World} {e : Ending} {w' : World} {v : Value}, (e = .returned v ∧ w = w') → e = .returned v ∧ Below w.heap.size w w' := fun h => ⟨h.1, h.2 ▸ Below.refl _ _⟩
  have M1 := Lib.hid (Later.meet (w := w3) (v := .bool true) fun W hb => by
    have h5 := sameClause_any (w := W) A3 x.l.length c3 x.l rfl (HO3.out.below hb).rd A' x.l.length c' x.l rfl (HR3.out.below hb).rd hl hl
    rw [beq_self_eq_true] at h5
    exact h5)
  have M2 := Lib.hid (Later.meet (w := w3) fun W hb => (HLN.out W (below_then HB3.out hb HB3.out.size)).mono fun _ _ h => hq h)
  have M3 := Lib.hid (Later.meet (w := w3) fun W hb => HIC.out W (below_then HB3.out hb HB3.out.size))
  have M4 := Lib.hid (Later.meet (w := w3) fun W hb => (HRC.out W (below_then HB3.out hb HB3.out.size)).mono fun _ _ h => hq h)
  refine wp_region_later (by kernel_rfl) (by kernel_rfl) ?_
  repeat (go_big_quiet_step (first
    | (go_at_call 14; exact M1.out _)
    | (go_at_call 27; exact M2.out _)
    | (go_at_call 16; exact M3.out _)
    | (go_at_call 17; exact M4.out _)))
  refine wpQuiet_nil ?_
  intro wq hw'
  obtain ⟨p, hp⟩ := hw'
  have HQ := Lib.hid (show Below w3.heap.size w3 wq from hp ▸ p.h)
  clear L2 L3 L4 L5 L6 hp p M1 M2 M3 M4
  have HOQ := Lib.hid ((HO3.out.below HQ.out).low (show w.heap.size ≤ W2.heap.size from HS2.out))
  have HRQ := Lib.hid (HR3.out.below HQ.out)
  have HXQ := Lib.hid (HX3.out.below HQ.out)
  have HBQ := Lib.hid (below_then HB3.out HQ.out HB3.out.size)
  clear HO3 HR3 HX3 HO2 HX2 HQ HB3 HLB HLN HIC HRC HLI HB2 HO1 HB1 hs3 HS2
  have HbW := Lib.hid (show w1.heap.size < wq.heap.size from HXQ.out.lt)
  generalize w1.heap.size = b at *
  obtain ⟨L, hL⟩ : ∃ L, x.l.length = L := ⟨_, rfl⟩
  have HL := Lib.hid hL
  rw [hL] at HOQ HRQ HXQ hl ⊢
  clear hL
  go_wp2_with fail
  go_loopw [11, 12, 13] (fun ok i y wr => ∃ j : Int, -1 ≤ j ∧ j ≤ L + 1 ∧ i = .int .i64 j ∧ ok = .bool true ∧ Below wq.heap.size wq wr) (fun _ i _ _ => (L + 1 - intOf i).toNat)
  case atStart => exact ⟨-1, by omega, by omega, rfl, rfl, Below.refl _ _⟩
  case round =>
    obtain ⟨j, hj0, hj1, rfl, rfl, hb⟩ := hrel
    have HB := Lib.hid hb
    have HBW := Lib.hid (below_then HBQ.out hb HBQ.out.size)
    have y3 : wr.cell? ⟨b, 3, none⟩ = some (.slice A' L c') := (HXQ.out.below hb).cell 3
    clear hb
    by_cases hle : j ≤ (L : Int)
    · have HC := Lib.hid (HLC.out wr HBW.out j (show -9223372036854775808 ≤ j ∧ j ≤ 9223372036854775807 by omega))
      by_cases h0 : j < 0
      · have HZ := Lib.hid (show litAt x.l j = 0 from if_pos h0)
        rw [HZ.out] at HC
        go_wp2_with fail
        refine HC.out.mono ?_
        rintro e w2 ⟨rfl, rfl⟩
        go_wp2
        go_roundw
        case rel => exact ⟨j + 1, by omega, by omega, by go_num, rfl, HB.out⟩
        case measure => simp [intOf]; omega
      obtain ⟨j, rfl⟩ : ∃ j' : Nat, j = j' := ⟨j.toNat, by omega⟩
      by_cases h1 : j < L
      · have hjl : j < x.l.length := by rw [HL.out]; exact h1
        have HZ := Lib.hid (show litAt x.l (j : Int) = x.l[j] from by
          unfold litAt
          rw [if_neg (by omega), Int.toNat_natCast, List.getD_eq_getElem?_getD, List.getElem?_eq_getElem hjl]
          rfl)
        rw [HZ.out] at HC
        obtain ⟨ga, eA, hga, hrow⟩ := (HRQ.out.below HB.out).row (by omega)
        subst eA
        have yj : wr.cell? ⟨ga, j, none⟩ = some (.int .i32 x.l[j]) := hrow.cell (by unfold LI; rw [List.getElem?_map, List.getElem?_eq_getElem hjl]; rfl)
        generalize x.l[j] = y at *
        clear hrow hjl HZ
        go_wp2_with fail
        refine HC.out.mono ?_
        rintro e w2 ⟨rfl, rfl⟩
        go_wp2
        go_roundw
        case rel => exact ⟨(j : Int) + 1, by omega, by omega, by go_num, rfl, HB.out⟩
        case measure => simp [intOf]; omega
      · have HZ := Lib.hid (show litAt x.l (j : Int) = 0 from by
          unfold litAt
          rw [if_neg (by omega), Int.toNat_natCast, List.getD_eq_getElem?_getD, List.getElem?_eq_none (by rw [HL.out]; omega)]
          rfl)
        rw [HZ.out] at HC
        go_wp2_with fail
        refine HC.out.mono ?_
        rintro e w2 ⟨rfl, rfl⟩
        go_wp2
        go_roundw
        case rel => exact ⟨(j : Int) + 1, by omega, by omega, by go_num, rfl, HB.out⟩
        case measure => simp [intOf]; omega
    · have HO := Lib.hid (HOQ.out.below HB.out)
      have hLx : L = x.l.length := HL.out.symm
      have HLx := Lib.hid hLx
      clear HOQ HRQ HXQ hLx
      go_wp2_with fail
      clear y3
      go_loopw [14] (fun i wx => ∃ (k : Nat) (xs : List Int), k ≤ L ∧ i = .int .i64 k ∧ App.Own wx w.heap.size 26 A3 L c3 (LI xs) ∧ Below w.heap.size w wx) (fun i _ => L - (intOf i).toNat)
      case atStart => exact ⟨0, _, Nat.zero_le _, rfl, HO.out, HBW.out⟩
      case round =>
        clear HO HBW HB
        obtain ⟨k, xs, hk, rfl, hO, hb⟩ := hrel
        have HO := Lib.hid hO
        have HB := Lib.hid hb
        have HXL := Lib.hid (rdC hO)
        clear hO hb
        by_cases hlt : k < L
        · obtain ⟨ga, eA, hga, hrow⟩ := HO.out.row (by omega)
          subst eA
          have hkx : k < xs.length := by rw [← HXL.out]; exact hlt
          have ck : wr.cell? ⟨ga, k, none⟩ = some (.int .i32 xs[k]) := hrow.cell (by unfold LI; rw [List.getElem?_map, List.getElem?_eq_getElem hkx]; rfl)
          have fk : wr.frozen? ⟨ga, k, none⟩ = false := hrow.frozen _
          have HS := Lib.hid (show App.Own (wr.setCell ⟨ga, k, none⟩ (.int .i32 77)) w.heap.size 26 (some ⟨ga, 0, none⟩) L c3 (LI (xs.set k 77)) from by
            have := HO.out.set_ k hlt (.int .i32 77)
            unfold LI at *
            rwa [List.map_set])
          have HBS := Lib.hid (HB.out.setCell (p := ⟨ga, k, none⟩) hga (.int .i32 77))
          generalize xs[k] = y at *
          clear hrow hkx
          go_wp2
          go_roundw
          case rel => exact ⟨k + 1, _, by omega, by go_num, HS.out, HBS.out⟩
          case measure => simp [intOf]; omega
        · go_wp2
          go_ret
          exact ⟨rfl, HB.out⟩
end
end Go.Proofs.Ytenadnmglhghiaa.Ar
