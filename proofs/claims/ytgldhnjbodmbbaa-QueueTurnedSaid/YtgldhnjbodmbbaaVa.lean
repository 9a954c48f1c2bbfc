/- QueueNext: the walk. Condition: the memory. -/
import Derived.Test.YtgldhnjbodmbbaaQz
namespace Go.Proofs.Ytgldhnjbodmbbaa.Qu
open Go.RowKit Go.Proofs.Ytgldhnjbodmbbaa.Mem Go.Proofs.Ytgldhnjbodmbbaa.Sl Go.Shelf
open Go.Proofs.Ytgldhnjbodmbbaa.FnL (enc_at below_then)
open Go.Proofs.Ytgldhnjbodmbbaa.OpQ (OQ Ops Pure)
set_option linter.unusedVariables false

set_option maxRecDepth 100000 in
set_option maxHeartbeats 8000000 in
theorem qnext_walk (n : Int) (a : Option Addr) (len cap : Nat) (ops : List OQ) (S : Option Addr) (sn sc : Nat) (bs : List Bool) (w : World) (hl : ops.length = len) (hm : len ≤ 9223372036854775807) (hn0 : -9223372036854775808 ≤ n) (hn1 : n ≤ 9223372036854775807) (ho : Ops w.heap.size w a ops) (hpu : ∀ o, o ∈ ops → Pure o) (hsn : sn = bs.length) (hsm : sn ≤ 9223372036854775807) (hrs : RdB w.heap.size w S (bs.map Value.bool)) :
    Calls Try.prog 4 #[.int .i64 n, .slice a len cap, .slice S sn sc] w fun e w' => e = .returned (.bool true) ∧ Below w.heap.size w w' := by
  have HL := Lib.hid hl
  have HO := Lib.hid ho
  have HPU := Lib.hid hpu
  have HSN := Lib.hid hsn
  have HRS := Lib.hid hrs
  have HA := Lib.hid (large_any n a len cap ops w hl hm hn0 hn1 ho)
  clear hl ho hpu hsn hrs
  go_enter Try.func4, Try.ntmps4
  go_wp2_with fail
  refine HA.out.mono ?_
  rintro e w1 ⟨⟨b, rfl, hb⟩, hb1⟩
  have HF := Lib.hid hb
  have HB1 := Lib.hid hb1
  clear hb hb1
  cases b
  case true =>
    go_wp2_with fail
    refine (works_ok _).mono ?_
    rintro e w2 ⟨rfl, hb2⟩
    have HB2 := Lib.hid (below_then HB1.out hb2 HB1.out.size)
    clear hb2
    go_wp2
    go_ret
    exact ⟨rfl, HB2.out⟩
  case false =>
    have HFT := Lib.hid (HF.out rfl)
    by_cases hbig : (4000 : Int) < sn
    · go_wp2_with fail
      refine (works_ok _).mono ?_
      rintro e w2 ⟨rfl, hb2⟩
      have HB2 := Lib.hid (below_then HB1.out hb2 HB1.out.size)
      clear hb2
      go_wp2
      go_ret
      exact ⟨rfl, HB2.out⟩
    have hs4 : sn ≤ 4000 := by omega
    by_cases hbad : n < 0 ∨ 1048576 < n
    · have HN := Lib.hid (fun W => bumped_bad n hbad a len cap W)
      clear hbad
      go_wp2_with fail
      refine (HN.out _).mono ?_
      rintro e w2 ⟨rfl, rfl⟩
      go_wp2_with fail
      refine (works_ok _).mono ?_
      rintro e w2 ⟨rfl, hb2⟩
      have HB2 := Lib.hid (below_then HB1.out hb2 HB1.out.size)
      clear hb2
      go_wp2
      go_ret
      exact ⟨rfl, HB2.out⟩
    obtain ⟨N, rfl⟩ : ∃ N : Nat, n = N := ⟨n.toNat, by omega⟩
    have hN : N ≤ 100 := by have := HFT.out.n; omega
    have hlen : len ≤ 100 := by have := HFT.out.len; have := HL.out; omega
    clear hbad hbig
    have HN := Lib.hid (bumped_ok N (by omega) a len cap ops w.heap.size w1 HB1.out.size HL.out hlen (HO.out.below HB1.out) HPU.out HFT.out.each)
    clear hm hn0 hn1 hsm
    go_wp2_with fail
    refine HN.out.mono ?_
    rintro e w2 ⟨q, rfl, hq, hb⟩
    have HB2 := Lib.hid (below_then HB1.out hb HB1.out.size)
    have HQ := Lib.hid (hq.low HB1.out.size)
    have HMN := Lib.hid (bumpedM_N N ops ops.length)
    clear hq hb HN HA HF
    generalize bumpedM N ops ops.length = m at *
    have HNX := Lib.hid (fun W (hb : Below w.heap.size w W) (h : QL W w.heap.size q m) => qnext_ok h S sn sc bs HSN.out ((HRS.out.below hb).rd hb.size) (by omega))
    obtain ⟨kk, hk1, hk2, hk3, hk4⟩ := ans_spec m.row bs
    have HK1 := Lib.hid hk1
    have HK2 := Lib.hid hk2
    have HK3 := Lib.hid hk3
    have HK4 := Lib.hid hk4
    have HVB := Lib.hid (show ansN m.row bs ≤ N from by rw [hk4, ← HMN.out]; exact cyc_le (fun v hv => (HQ.out.qw.mem v).1 hv) kk)
    have HVS := Lib.hid (show ∀ (h0 : ansN m.row bs ≠ 0), isSet bs (ansN m.row bs) = false from fun h0 => by
      rcases kk with _ | k
      · rw [hk4, cyc_zero] at h0; exact absurd rfl h0
      · have hlt : k < m.row.length := by omega
        rw [hk4, cyc_mid hlt]
        exact hk3 k hlt rfl)
    have HVE := Lib.hid (show ∀ i (hi : i < m.row.length), kk ≤ i → m.row[i] ≠ ansN m.row bs from fun i hi hki e => by
      rcases kk with _ | k
      · rw [hk4, cyc_zero] at e
        have := (HQ.out.qw.mem _).1 (List.getElem_mem hi)
        omega
      · have hlt : k < m.row.length := by omega
        rw [hk4, cyc_mid hlt] at e
        have := (List.getElem_inj HQ.out.qw.nd).1 e
        omega)
    clear hk1 hk2 hk3 hk4
    generalize hv : ansN m.row bs = v at *
    have HV := Lib.hid hv
    clear hv
    go_wp2_with fail
    refine (HNX.out _ HB2.out HQ.out).mono ?_
    rintro e w3 ⟨rfl, hq, hm⟩
    have HQ3 := Lib.hid hq
    have HB3 := Lib.hid (HQ.out.mq_below HB2.out hm)
    rw [HV.out]
    obtain ⟨ok, hok⟩ : ∃ ok, ok = decide (v ≠ 0) := ⟨_, rfl⟩
    rw [← hok]
    have HOK := Lib.hid hok
    clear hq hm HQ HB2 HB1 hok
    go_wp2_with fail
    go_loopw [10] (fun i wr => ∃ k : Nat, k ≤ len ∧ i = .int .i64 k ∧ QL wr w.heap.size q m ∧ Below w.heap.size w wr) (fun i _ => len - (intOf i).toNat)
    case atStart => exact ⟨0, Nat.zero_le _, rfl, HQ3.out, HB3.out⟩
    case round =>
      clear HQ3 HB3
      obtain ⟨k, hk, rfl, hq, hb⟩ := hrel
      have HQ := Lib.hid hq
      have HB := Lib.hid hb
      clear hq hb
      by_cases hlt : k < len
      · have hkl : k < ops.length := by rw [HL.out]; exact hlt
        obtain ⟨b, off, ha, hob, hoc⟩ := (HO.out.below HB.out) (by omega)
        subst ha
        have hok := hoc k _ (List.getElem?_eq_getElem hkl)
        have h4 := HFT.out.each k _ (List.getElem?_eq_getElem hkl)
        generalize ops[k] = x at *
        have c2 := hok.s2
        have HX := Lib.hid (qnext_ok HQ.out x.S x.k x.d x.s hok.n2 (hok.r2.rd HB.out.size) (by omega))
        clear hok hoc hob hkl h4
        go_wp2_with fail
        refine HX.out.mono ?_
        rintro e w4 ⟨rfl, hq, hm⟩
        have HQ4 := Lib.hid hq
        have HB4 := Lib.hid (HQ.out.mq_below HB.out hm)
        clear hq hm HX c2
        generalize ansN m.row x.s = v2 at *
        generalize decide (v2 ≠ 0) = b2 at *
        go_wp2
        go_roundw
        case rel => exact ⟨k + 1, by omega, by go_num, HQ4.out, HB4.out⟩
        case measure => simp [intOf]; omega
      · have HD := Lib.hid (HNX.out wr HB.out HQ.out)
        go_wp2_with fail
        refine HD.out.mono ?_
        rintro e w4 ⟨rfl, hq, hm⟩
        have HQ4 := Lib.hid hq
        have HB4 := Lib.hid (HQ.out.mq_below HB.out hm)
        rw [HV.out, ← HOK.out]
        clear hq hm HD HQ HB HNX
        have HRW := Lib.hid ((HRS.out.below HB4.out).rd HB4.out.size)
        go_upto_region 12 with (fail)
        go_cut [78] from 55 to 78 (fun c wx => c = .bool false ∧ w4 = wx)
        case first =>
          have HW4 := Lib.hid (show w4 = w4 from rfl)
          by_cases h0 : v = 0
          · have hok : ok = false := by rw [HOK.out]; simp [h0]
            subst hok
            clear h0 HVS HVE HK2 HK3 HK4 HV
            go_wp2
            go_meet
            case rel => exact ⟨rfl, rfl⟩
          · have hok : ok = true := by rw [HOK.out]; simp [h0]
            subst hok
            have hset := HVS.out h0
            unfold isSet at hset
            rw [← HSN.out] at hset
            have HST := Lib.hid hset
            clear hset
            have hv1 : (0 : Int) ≤ (v : Int) - 1 := by omega
            have e1 : IntKind.i64.wrap ((v : Int) - 1) = (v : Int) - 1 := IntWalk.i64_in _ (by have := HVB.out; omega)
            by_cases hle : v ≤ sn
            · have hvl : v - 1 < bs.length := by rw [← HSN.out]; omega
              obtain ⟨bt, ot, eB, _, hct⟩ := RdV.at_ HRW.out (enc_at (enc := Value.bool) hvl)
              have hz : bs[v - 1] = false := by
                have := HST.out
                rw [decide_eq_true hle, Bool.true_and, List.getD_eq_getElem?_getD, List.getElem?_eq_getElem hvl] at this
                exact this
              rw [hz] at hct
              subst eB
              obtain ⟨u, rfl⟩ : ∃ u : Nat, v = u + 1 := ⟨v - 1, by omega⟩
              rw [Nat.add_sub_cancel] at hct
              have hu1 : ((u + 1 : Nat) : Int) ≤ (sn : Int) := by omega
              have hu2 : (u : Int) < (sn : Int) := by omega
              have hu3 : (0 : Int) ≤ (u : Int) := Int.natCast_nonneg _
              have hu4 : u < sn := by omega
              have e2 : IntKind.i64.wrap (((u + 1 : Nat) : Int) - 1) = (u : Int) := by rw [IntWalk.i64_in _ (by omega)]; omega
              have e3 : IntKind.i64.wrap ((u : Int) + 1 - 1) = (u : Int) := by rw [IntWalk.i64_in _ (by omega)]; omega
              clear hz hvl e1 hv1 h0 HVS HVE HK2 HK3 HK4 HV HST
              go_wp2
              go_meet
              case rel => exact ⟨rfl, rfl⟩
            · have hle2 : ¬ (v : Int) ≤ (sn : Int) := by omega
              clear HVS HVE HK2 HK3 HK4 HV
              go_wp2
              go_meet
              case rel => exact ⟨rfl, rfl⟩
        case rest =>
          obtain ⟨rfl, rfl⟩ := hcut
          have HRD := Lib.hid (fun W (hb : Below w.heap.size w W) => (HRS.out.below hb).rd hb.size)
          go_wp2_with fail
          refine (qorder_ok HQ4.out).mono ?_
          rintro e w5 ⟨⟨A, c, rfl, hO⟩, hb⟩
          have HO5 := Lib.hid hO
          have HB5 := Lib.hid (below_then HB4.out hb HB4.out.size)
          have HPOS := Lib.hid (fun i (hi : i < m.row.length) => (HQ4.out.qw.mem _).1 (List.getElem_mem hi))
          have hLn : m.row.length ≤ 1048576 := by rw [HQ4.out.qw.len]; exact HQ4.out.qw.N
          have HRV := Lib.hid (show RdV w5 S (bs.map Value.bool) from HRD.out w5 HB5.out)
          clear hO hb HQ4 HRW HB4 HRD
          obtain ⟨L, hL⟩ : ∃ L, m.row.length = L := ⟨_, rfl⟩
          rw [hL] at HO5 hLn HK1 ⊢
          have HLL := Lib.hid hL
          clear hL
          have e0 : IntKind.i64.wrap ((L : Int) - 1) = (L : Int) - 1 := IntWalk.i64_in _ (by omega)
          go_wp2_with fail
          clear e0
          go_loopw [14] (fun i wr => ∃ j : Nat, kk ≤ j ∧ j ≤ L ∧ i = .int .i64 ((j : Int) - 1) ∧ w5 = wr) (fun i _ => (intOf i + 1).toNat)
          case atStart => exact ⟨L, HK1.out, Nat.le_refl _, rfl, rfl⟩
          case round =>
            obtain ⟨j, hj1, hj2, rfl, rfl⟩ := hrel
            rcases j with _ | j'
            · have hz : ¬ (0 : Int) ≤ ((0 : Nat) : Int) - 1 := by omega
              clear HVS HVE HK2 HK3 HK4 HV
              go_wp2_with fail
              refine (works_ok _).mono ?_
              rintro e wx ⟨rfl, hbx⟩
              have HBX := Lib.hid (below_then HB5.out hbx HB5.out.size)
              clear hbx
              go_wp2
              go_ret
              exact ⟨rfl, HBX.out⟩
            · have hjl : j' < m.row.length := by have := HLL.out; omega
              obtain ⟨ba, eA, hca⟩ := Own.at_ HO5.out (k := j') (by rw [rowI_len]; exact hjl)
              have hcx : w5.cell? ⟨ba, j', none⟩ = some (.int .i64 ((m.row[j'] : Nat) : Int)) := by rw [hca]; unfold rowI; simp
              have hp := HPOS.out j' hjl
              have HNE := Lib.hid (fun h => HVE.out j' hjl h)
              have HSE := Lib.hid (fun h => HK2.out j' hjl h)
              have HEQ := Lib.hid (show kk = j' + 1 → m.row[j'] = v from fun h => by
                have := HK4.out
                rw [h, cyc_mid hjl] at this
                exact this.symm)
              subst eA
              have ej : (((j' + 1 : Nat) : Int) - 1) = (j' : Int) := by omega
              rw [ej]
              have hj0 : (0 : Int) ≤ (j' : Int) := Int.natCast_nonneg _
              have hj3 : (j' : Int) < (L : Int) := by have := HLL.out; omega
              clear hca ej
              generalize m.row[j']'hjl = x at *
              by_cases hkk : kk = j' + 1
              · have hxv := HEQ.out hkk
                clear HVS HVE HK2 HK3 HK4 HV HNE HSE HEQ hkk hj1
                rw [hxv] at hcx
                clear hxv
                go_wp2_with fail
                refine (works_ok _).mono ?_
                rintro e wx ⟨rfl, hbx⟩
                have HBX := Lib.hid (below_then HB5.out hbx HB5.out.size)
                clear hbx
                go_wp2
                go_ret
                exact ⟨rfl, HBX.out⟩
              · have hne := HNE.out (by omega)
                have hset := HSE.out (by omega)
                have hxv : ((x : Int) != (v : Int)) = true := by simp; omega
                unfold isSet at hset
                rw [← HSN.out, Bool.and_eq_true, decide_eq_true_eq] at hset
                obtain ⟨hx1, hx2⟩ := hset
                obtain ⟨u, rfl⟩ : ∃ u : Nat, x = u + 1 := ⟨x - 1, by omega⟩
                rw [Nat.add_sub_cancel] at hx2
                have hul : u < bs.length := by rw [← HSN.out]; omega
                obtain ⟨bt, ot, eB, _, hct⟩ := RdV.at_ HRV.out (enc_at (enc := Value.bool) hul)
                have hz : bs[u] = true := by
                  rw [List.getD_eq_getElem?_getD, List.getElem?_eq_getElem hul] at hx2
                  exact hx2
                rw [hz] at hct
                subst eB
                have hu1 : ¬ (sn : Int) < ((u + 1 : Nat) : Int) := by omega
                have hu2 : (u : Int) < (sn : Int) := by omega
                have hu3 : (0 : Int) ≤ (u : Int) := Int.natCast_nonneg _
                have hu4 : u < sn := by omega
                have hu5 : ¬ sn < u + 1 := by omega
                have hu6 : ¬ (sn : Int) < (u : Int) + 1 := by omega
                have e2 : IntKind.i64.wrap (((u + 1 : Nat) : Int) - 1) = (u : Int) := by rw [IntWalk.i64_in _ (by omega)]; omega
                have e3 : IntKind.i64.wrap ((u : Int) + 1 - 1) = (u : Int) := by rw [IntWalk.i64_in _ (by omega)]; omega
                have e5 : IntKind.i64.wrap ((j' : Int) - 1) = (j' : Int) - 1 := IntWalk.i64_in _ (by omega)
                have hxv2 : ((u : Int) + 1 != (v : Int)) = true := by simp; omega
                have hkj : kk ≤ j' := by omega
                clear hz hul hx2 hx1 hne HVS HVE HK2 HK3 HK4 HV HNE HSE HEQ hkk hj1
                go_wp2
                go_roundw
                case rel => exact ⟨j', hkj, by omega, by first | rfl | (rw [e5]), trivial⟩
                case measure => simp only [intOf]; first | omega | (rw [e5]; omega)
end Go.Proofs.Ytgldhnjbodmbbaa.Qu
namespace Go.Proofs.Ytgldhnjbodmbbaa.OpQ
open Go.RowKit Go.Proofs.Ytgldhnjbodmbbaa.Mem Go.Proofs.Ytgldhnjbodmbbaa.Sl Go.Proofs.Ytgldhnjbodmbbaa.Rdr
theorem set_of {w : World} {A : Option Addr} {n c : Nat} {x : SlV × List Bool} (h : (slice bool).rel w [.slice A n c] x) : RdB w.heap.size w A (x.2.map Value.bool) ∧ n = x.2.length ∧ n ≤ 9223372036854775807 := by
  obtain ⟨h1, h2, h3, h4, h5, h6⟩ := h
  injection h1 with h1 _
  injection h1 with hA hn hc
  rw [← hA] at h5 h6
  rw [← hn] at h2 h3
  rw [← hc] at h3 h4 h5
  exact ⟨RdB.of (bools_of h2 h3 h5 h6), h2.symm, Nat.le_trans h3 (Nat.le_trans h4 (by decide))⟩
theorem ints_arg {w : World} {A : Option Addr} {n c : Nat} {x : SlV × List Int} (h : (slice (int .i64)).rel w [.slice A n c] x) : RdB w.heap.size w A (x.2.map (Value.int .i64)) ∧ n = x.2.length ∧ n ≤ 9223372036854775807 ∧ (∀ y, y ∈ x.2 → I64 y) ∧ (A = none → c = 0) := by
  obtain ⟨h1, h2, h3, h4, h5, h6⟩ := h
  injection h1 with h1 _
  injection h1 with hA hn hc
  rw [← hA] at h5 h6
  rw [← hn] at h2 h3
  rw [← hc] at h3 h4 h5
  obtain ⟨k1, k2⟩ := ints_of h2 h3 h5 h6
  exact ⟨RdB.of k1, h2.symm, Nat.le_trans h3 (Nat.le_trans h4 (by decide)), k2, h5⟩
end Go.Proofs.Ytgldhnjbodmbbaa.OpQ
