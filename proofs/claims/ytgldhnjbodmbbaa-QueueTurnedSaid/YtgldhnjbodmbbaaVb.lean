/- QueueTurned: the walk. Condition: the memory. -/
import Derived.Test.YtgldhnjbodmbbaaVa
import Derived.Deep.AppendLies
import Derived.Deep.RegionHeld3
namespace Go.Proofs.Ytgldhnjbodmbbaa.Qu
open Go.RowKit Go.Proofs.Ytgldhnjbodmbbaa.Mem Go.Proofs.Ytgldhnjbodmbbaa.Sl Go.Shelf
open Go.Proofs.Ytgldhnjbodmbbaa.FnL (enc_at below_then)
open Go.Proofs.Ytgldhnjbodmbbaa.OpQ (OQ Ops Pure)
set_option linter.unusedVariables false

def turnL (l : List Int) (j : Nat) : List Int := (l.drop j).reverse.flatMap fun x => [x, x]
theorem turnL_next {l : List Int} {j : Nat} (h : j < l.length) : turnL l j = turnL l (j + 1) ++ [l[j], l[j]] := by
  unfold turnL
  rw [List.drop_eq_getElem_cons h, List.reverse_cons, List.flatMap_append]
  rfl
theorem turnL_end (l : List Int) : turnL l l.length = [] := by unfold turnL; rw [List.drop_length]; rfl
theorem turnL_mem {l : List Int} {x : Int} : x ∈ turnL l 0 ↔ x ∈ l := by
  unfold turnL
  rw [List.drop_zero, List.mem_flatMap]
  constructor
  · rintro ⟨y, hy, hx⟩
    simp at hx hy
    subst hx; exact hy
  · intro h; exact ⟨x, by simpa using h, by simp⟩
theorem bump_same {m : QM} {l l' : List Int} (h : ∀ x, x ∈ l' ↔ x ∈ l) : bumpM m l' = bumpM m l ∧ bumpE m l' = bumpE m l := by
  have h1 : badI m.N l' = badI m.N l := by
    unfold badI
    rw [Bool.eq_iff_iff, List.any_eq_true, List.any_eq_true]
    exact ⟨fun ⟨x, a, b⟩ => ⟨x, (h x).1 a, b⟩, fun ⟨x, a, b⟩ => ⟨x, (h x).2 a, b⟩⟩
  have h2 : (l' = []) = (l = []) := by
    apply propext
    constructor
    · intro e; refine List.eq_nil_iff_forall_not_mem.2 fun x hx => ?_
      have := (h x).2 hx; rw [e] at this; cases this
    · intro e; refine List.eq_nil_iff_forall_not_mem.2 fun x hx => ?_
      have := (h x).1 hx; rw [e] at this; cases this
  have h3 : mvL m.row l' = mvL m.row l := by
    unfold mvL
    refine List.filter_congr fun v hv => ?_
    rw [Bool.eq_iff_iff, List.contains_iff_mem, List.contains_iff_mem]
    exact h _
  unfold bumpM bumpE
  rw [h1, h3]
  constructor <;> simp only [h2]
set_option maxRecDepth 100000 in
set_option maxHeartbeats 8000000 in
theorem qturned_walk (n : Int) (a : Option Addr) (len cap : Nat) (ops : List OQ) (S : Option Addr) (sn sc : Nat) (bs : List Int) (w : World) (hl : ops.length = len) (hm : len ≤ 9223372036854775807) (hn0 : -9223372036854775808 ≤ n) (hn1 : n ≤ 9223372036854775807) (ho : Ops w.heap.size w a ops) (hpu : ∀ o, o ∈ ops → Pure o) (hsn : sn = bs.length) (hsm : sn ≤ 9223372036854775807) (hrs : RdB w.heap.size w S (bs.map (Value.int .i64))) (hin : ∀ y, y ∈ bs → inI y) :
    Calls Try.prog 5 #[.int .i64 n, .slice a len cap, .slice S sn sc] w fun e w' => e = .returned (.bool true) ∧ Below w.heap.size w w' := by
  have HL := Lib.hid hl
  have HO := Lib.hid ho
  have HPU := Lib.hid hpu
  have HSN := Lib.hid hsn
  have HRS := Lib.hid hrs
  have HIN := Lib.hid hin
  have HA := Lib.hid (large_any n a len cap ops w hl hm hn0 hn1 ho)
  clear hl ho hpu hsn hrs hin
  go_enter Try.func5, Try.ntmps5
  go_wp2_with fail
  refine HA.out.mono ?_
  rintro e w1 ⟨⟨b, rfl, hb⟩, hb1⟩
  have HF := Lib.hid hb
  have HB1 := Lib.hid hb1
  clear hb hb1
  cases b
  case true =>
    go_wp2_with fail
    refine (works_ok _).mono ?_
    rintro e w2 ⟨rfl, hb2⟩
    have HB2 := Lib.hid (below_then HB1.out hb2 HB1.out.size)
    clear hb2
    go_wp2
    go_ret
    exact ⟨rfl, HB2.out⟩
  case false =>
    have HFT := Lib.hid (HF.out rfl)
    by_cases hbig : (1000 : Int) < sn
    · go_wp2_with fail
      refine (works_ok _).mono ?_
      rintro e w2 ⟨rfl, hb2⟩
      have HB2 := Lib.hid (below_then HB1.out hb2 HB1.out.size)
      clear hb2
      go_wp2
      go_ret
      exact ⟨rfl, HB2.out⟩
    have hs4 : sn ≤ 1000 := by omega
    by_cases hbad : n < 0 ∨ 1048576 < n
    · have HN := Lib.hid (fun W => bumped_bad n hbad a len cap W)
      clear hbad
      go_wp2_with fail
      refine (HN.out _).mono ?_
      rintro e w2 ⟨rfl, rfl⟩
      go_wp2_with fail
      refine (HN.out _).mono ?_
      rintro e w2 ⟨rfl, rfl⟩
      go_wp2_with fail
      refine (works_ok _).mono ?_
      rintro e w2 ⟨rfl, hb2⟩
      have HB2 := Lib.hid (below_then HB1.out hb2 HB1.out.size)
      clear hb2
      go_wp2
      go_ret
      exact ⟨rfl, HB2.out⟩
    obtain ⟨N, rfl⟩ : ∃ N : Nat, n = N := ⟨n.toNat, by omega⟩
    have hN : N ≤ 100 := by have := HFT.out.n; omega
    have hlen : len ≤ 100 := by have := HFT.out.len; have := HL.out; omega
    clear hbad hbig
    have HN := Lib.hid (fun W (hb : Below w.heap.size w W) => bumped_ok N (by omega) a len cap ops w.heap.size W hb.size HL.out hlen (HO.out.below hb) HPU.out HFT.out.each)
    have HMN := Lib.hid (bumpedM_N N ops ops.length)
    have HMV := Lib.hid (show (bumpedM N ops ops.length).moved ≤ 100 from by have := bumpedM_moved N ops ops.length; have := HL.out; omega)
    clear hm hn0 hn1 hsm
    go_wp2_with fail
    refine (HN.out _ HB1.out).mono ?_
    rintro e w2 ⟨q, rfl, hq, hb⟩
    have HB2 := Lib.hid (below_then HB1.out hb HB1.out.size)
    have HQ := Lib.hid (hq.low HB1.out.size)
    clear hq hb
    go_wp2_with fail
    refine (HN.out _ HB2.out).mono ?_
    rintro e w3 ⟨p, rfl, hp, hb⟩
    have HB3 := Lib.hid (below_then HB2.out hb HB2.out.size)
    have HQ3 := Lib.hid (HQ.out.below hb)
    have HP3 := Lib.hid hp
    have HAP := Lib.hid (show ∀ i, mq q i → ¬ mq p i from fun i e1 e2 => absurd (HQ.out.minB e1).2 (Nat.not_lt_of_le (hp.minB e2).1))
    have HW2 := Lib.hid (show w.heap.size ≤ w2.heap.size from HB2.out.size)
    clear hp hb HN HA HF HQ HB2 HB1
    generalize bumpedM N ops ops.length = m at *
    have e0 : IntKind.i64.wrap ((sn : Int) - 1) = (sn : Int) - 1 := IntWalk.i64_in _ (by omega)
    go_wp2_with fail
    clear e0
    go_loopw [9, 10] (fun s i wr => ∃ (j : Nat) (A : Option Addr) (c : Nat), j ≤ sn ∧ i = .int .i64 ((j : Int) - 1) ∧ s = .slice A (2 * (sn - j)) c ∧ App.Own wr w3.heap.size 3 A (2 * (sn - j)) c (LZ (turnL bs j)) ∧ Below w3.heap.size w3 wr) (fun _ i _ => (intOf i + 1).toNat)
    case atStart => exact ⟨sn, none, 0, Nat.le_refl _, rfl, by rw [Nat.sub_self], by rw [Nat.sub_self, HSN.out, turnL_end]; exact App.Own.nil _ _ _, Below.refl _ _⟩
    case round =>
      obtain ⟨j, A, c, hj, rfl, rfl, hO, hb⟩ := hrel
      have HO1 := Lib.hid hO
      have HB := Lib.hid hb
      clear hO hb
      rcases j with _ | j'
      · have hz0 : ¬ (0 : Int) ≤ ((0 : Nat) : Int) - 1 := by omega
        rw [Nat.sub_zero] at HO1 ⊢
        have HMM := Lib.hid (bump_same (m := m) (fun x => turnL_mem (l := bs) (x := x)))
        have HLT := Lib.hid (show 2 * sn = (turnL bs 0).length from by have := HO1.out.1; rwa [LZ, List.length_map] at this)
        have HQr := Lib.hid (HQ3.out.below HB.out)
        have HPr := Lib.hid (HP3.out.below HB.out)
        have HBr := Lib.hid (below_then HB3.out HB.out HB3.out.size)
        have HU1 := Lib.hid (qbump_ok HQr.out (by have := HMV.out; omega) S sn sc bs HSN.out ((HRS.out.below HBr.out).rd HBr.out.size) HIN.out (by omega))
        go_wp2_with fail
        refine HU1.out.mono ?_
        rintro e w4 ⟨rfl, hq, hm⟩
        have HQ4 := Lib.hid hq
        have HP4 := Lib.hid (HPr.out.mod hm (fun i e1 e2 => HAP.out i e2 e1) (fun i hb => HQr.out.bools hb))
        have HO4 := Lib.hid (HO1.out.mod hm (fun i hi _ e => absurd (HQ3.out.minB e).2 (Nat.not_lt_of_le hi)))
        have HB4 := Lib.hid (HQr.out.mq_below HBr.out hm)
        have HU2 := Lib.hid (qbump_ok HP4.out (by have := HMV.out; omega) A (2 * sn) c (turnL bs 0) HLT.out HO4.out.rd (fun y hy => HIN.out y (turnL_mem.1 hy)) (by omega))
        clear hq hm HU1
        go_wp2_with fail
        refine HU2.out.mono ?_
        rintro e w5 ⟨rfl, hp, hm⟩
        rw [HMM.out.1] at hp
        rw [HMM.out.2]
        have HP5 := Lib.hid hp
        have HQ5 := Lib.hid (HQ4.out.mod hm (fun i e1 e2 => HAP.out i e1 e2) (fun i hb => HP4.out.bools hb))
        have HB5 := Lib.hid (Mem.Below.then_mod HB4.out hm (fun i hi e => absurd (HP3.out.minB e).1 (by have := HW2.out; omega)) (Nat.le_refl _))
        have HN5 := Lib.hid (show (bumpM m bs).N = N from (bumpM_N _ _).trans HMN.out)
        clear hp hm HU2 HO4 HO1 HB4 HQ4 HP4 HMM
        generalize bumpE m bs = ee at *
        generalize bumpM m bs = m5 at *
        go_wp2_with fail
        refine (qorder_ok HQ5.out).mono ?_
        rintro e w6 ⟨⟨A6, c6, rfl, hO6⟩, hb6⟩
        have HO6 := Lib.hid hO6
        have HB6 := Lib.hid (below_then HB5.out hb6 HB5.out.size)
        have HQ6 := Lib.hid (HQ5.out.below hb6)
        have HP6 := Lib.hid (HP5.out.below hb6)
        clear hO6 hb6
        go_wp2_with fail
        refine (qorder_ok HP6.out).mono ?_
        rintro e w7 ⟨⟨A7, c7, rfl, hO7⟩, hb7⟩
        have hr5 : m5.row.length ≤ 1048576 := by rw [HQ6.out.qw.len]; exact HQ6.out.qw.N
        have HS7 := Lib.hid (same_any (w := w7) A6 m5.row.length c6 (rowI m5.row) (rowI_len _).symm (HO6.out.below hb7).rd A7 m5.row.length c7 (rowI m5.row) (rowI_len _).symm hO7.rd (by omega) (by omega))
        rw [beq_self_eq_true] at HS7
        have HB7 := Lib.hid (below_then HB6.out hb7 HB6.out.size)
        have HQ7 := Lib.hid (HQ6.out.below hb7)
        have HP7 := Lib.hid (HP6.out.below hb7)
        clear hO7 hb7
        go_wp2_with fail
        refine HS7.out.mono ?_
        rintro e w8 ⟨rfl, hb8⟩
        have HB8 := Lib.hid (below_then HB7.out hb8 HB7.out.size)
        have HQ8 := Lib.hid (HQ7.out.below hb8)
        have HP8 := Lib.hid (HP7.out.below hb8)
        clear hb8 HS7 HB7 HQ7 HP7 HB6 HQ6 HP6 HO6 HB5 HQ5 HP5
        go_wp2_with fail
        go_loopw [13] (fun i wr => ∃ k : Nat, k ≤ N + 1 ∧ i = .int .i64 k ∧ w8 = wr) (fun i _ => N + 1 - (intOf i).toNat)
        case atStart => exact ⟨0, Nat.zero_le _, rfl, rfl⟩
        case round =>
          obtain ⟨k, hk, rfl, rfl⟩ := hrel
          have hN100 : (N : Int) ≤ 100 := by omega
          by_cases hle : k < N + 1
          · have HS1 := Lib.hid (qstamp_ok HQ8.out (k : Int))
            have HS2 := Lib.hid (qstamp_ok HP8.out (k : Int))
            have hle2 : (k : Int) ≤ (N : Int) := by omega
            generalize stampI m5.N m5.st (k : Int) = x at *
            go_wp2_with fail
            refine HS1.out.mono ?_
            rintro e w9 ⟨rfl, rfl⟩
            go_wp2_with fail
            refine HS2.out.mono ?_
            rintro e w9 ⟨rfl, rfl⟩
            clear HS1 HS2
            go_wp2
            go_roundw
            case rel => exact ⟨k + 1, by omega, by go_num, trivial⟩
            case measure => simp [intOf]; omega
          · have hle2 : ¬ (k : Int) ≤ (N : Int) := by omega
            go_wp2_with fail
            refine (works_ok _).mono ?_
            rintro e wx ⟨rfl, hbx⟩
            have HBX := Lib.hid (below_then HB8.out hbx HB8.out.size)
            clear hbx
            go_wp2
            go_ret
            exact ⟨rfl, HBX.out⟩
      · have hjl : j' < bs.length := by rw [← HSN.out]; omega
        obtain ⟨bt, ot, eB, hbx, hc0⟩ := HRS.out (by rw [List.length_map]; omega)
        have HCX := Lib.hid (fun W (hb : Below w3.heap.size w3 W) => ((below_then HB3.out hb HB3.out.size).cell (p := ⟨bt, ot + j', none⟩) hbx).trans (hc0 j' _ (enc_at (enc := Value.int .i64) hjl)))
        have hct := HCX.out wr HB.out
        clear hc0 hbx
        have HT := Lib.hid (turnL_next hjl)
        generalize bs[j']'hjl = x at *
        subst eB
        have ej : (((j' + 1 : Nat) : Int) - 1) = (j' : Int) := by omega
        rw [ej]
        have hj0 : (0 : Int) ≤ (j' : Int) := Int.natCast_nonneg _
        have hj1 : (j' : Int) < (sn : Int) := by omega
        have hj2 : j' < sn := by omega
        have HLN := Lib.hid (show 2 * (sn - (j' + 1)) + 2 = 2 * (sn - j') by omega)
        have HRX := Lib.hid (new_is wr.drew [x, x])
        have hb4 : 2 * (sn - (j' + 1)) + 2 ≤ 4000000 := by omega
        have e5 : IntKind.i64.wrap ((j' : Int) - 1) = (j' : Int) - 1 := IntWalk.i64_in _ (by omega)
        clear ej hjl
        generalize 2 * (sn - (j' + 1)) = z at *
        go_wp2_with fail
        have HOR := Lib.hid (show (wr.drew.alloc (.cells #[.int .i64 x, .int .i64 x] 3)).ownsRow w3.heap.size 3 1 (.slice A z c) z (LZ (turnL bs (j' + 1))) from ((HO1.out.drewN 1).alloc _).own)
        have HBA := Lib.hid (show Below w3.heap.size w3 (wr.drew.alloc (.cells #[.int .i64 x, .int .i64 x] 3)) from HB.out.drew.alloc HB.out.drew.size _)
        have HFN := Lib.hid (fun (g cap : Nat) (w4 : World) (hown : w4.ownsRow w3.heap.size 3 1 (.slice (some ⟨g, 0, none⟩) (z + 2) cap) (z + 2) (LZ (turnL bs (j' + 1)) ++ LZ [x, x])) (hg : (wr.drew.alloc (.cells #[.int .i64 x, .int .i64 x] 3)).grownBy w4 (Value.slice A z c).ownBlock) => (show App.Own w4 w3.heap.size 3 (some ⟨g, 0, none⟩) (z + 2) cap (LZ (turnL bs (j' + 1) ++ [x, x])) ∧ Below w3.heap.size w3 w4 from by
          obtain ⟨A', c', e, hO⟩ := App.Own.of hown
          cases e
          exact ⟨by rw [LZ, List.map_append]; exact hO, Mem.Below.then_mod HBA.out (Mod.grown hg) (fun i hi e => absurd hi (Nat.not_lt_of_le (HO1.out.block e))) (Nat.le_refl _)⟩))
        obtain ⟨i0, hi⟩ := Option.isSome_iff_exists.1 (show (Try.prog.info? 3).isSome = true by kernel_rfl)
        have hz : (Try.prog.info? 3).map (fun i => (i.zero, i.size, i.bytes)) = some (some (.int .i64 0), 1, 8) := by kernel_rfl
        rw [hi] at hz
        injection hz with hz
        injection hz with hz0 hz
        injection hz with hz1 hz2
        have HI0 := Lib.hid hi
        have HI1 := Lib.hid hz0
        have HI2 := Lib.hid hz1
        have HI3 := Lib.hid hz2
        have hzl : z + 2 ≤ maxLen := by unfold maxLen; omega
        have hzb : (z + 2) * 8 ≤ 140737488355328 := by omega
        clear hi hz0 hz1 hz2
        go_region_held3 (fun W => W.cell? ⟨bt, ot + j', none⟩ = some (.int .i64 x)) (first | exact hct | exact y1 | go_keep)
          (first | (refine step_append_lies _ (by rfl) _ _ 29 (by rfl) w3.heap.size 3 i0 (.int .i64 0) 1 8 Try.underlying29 HI0.out HI1.out HI2.out HI3.out rfl (by decide) (.slice A z c) z (LZ (turnL bs (j' + 1))) (by rfl) HOR.out ⟨wr.drew.heap.size, 0, none⟩ 2 2 (LZ [x, x]) (by rfl) (by rfl) (fun j u hj => by
              obtain ⟨b', off', e', _, hc'⟩ := RdV.at_ HRX.out hj
              cases e'
              rw [Go.WideShapes.add_plain]
              exact hc') one_LZ (by decide) hzl hzb HBA.out.size (wr.heap.size + 1) (World.size_alloc _ _) ?_; intro ga cap w4 hown hg _ _; have HFF := Lib.hid (HFN.out ga cap w4 hown hg); have y1 := HCX.out w4 HFF.out.2; clear hown hg))
        rw [HLN.out] at HFF
        go_wp2
        go_roundw
        case rel => exact ⟨j', _, cap, by omega, by first | rfl | rw [e5], by first | rfl | rw [HLN.out], by rw [HT.out]; exact HFF.out.1, HFF.out.2⟩
        case measure => simp only [intOf]; first | omega | (rw [e5]; omega)
end Go.Proofs.Ytgldhnjbodmbbaa.Qu
