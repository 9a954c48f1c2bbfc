/- The walk of PhaseSame. -/
import Derived.Test.YtcmicmghnmklnaaPhO
namespace Go.Proofs.Ytcmicmghnmklnaa.Ph
open Go.RowKit Go.Proofs.Ytcmicmghnmklnaa.Mem Go.Proofs.Ytcmicmghnmklnaa.Sl Go.Shelf Go.Proofs.Ytcmicmghnmklnaa.Ops
set_option linter.unusedVariables false

set_option maxRecDepth 100000 in
set_option maxHeartbeats 8000000 in
theorem same_walk (n : Int) (st : Bool) (seed : Int) (a : Option Addr) (len cap : Nat) (ops : List Op3) (am : Option Addr) (lm cm : Nat) (more : List Op3) (w : World) (hl : ops.length = len) (hm : len ≤ 9223372036854775807) (hn0 : -9223372036854775808 ≤ n) (hn1 : n ≤ 9223372036854775807)
    (hs0 : 0 ≤ seed) (hs1 : seed ≤ 18446744073709551615) (ho : Ops w.heap.size w a ops) (hl2 : more.length = lm) (hm2 : lm ≤ 9223372036854775807) (ho2 : Ops w.heap.size w am more) :
    Calls Try.prog 5 #[.int .i64 n, .bool st, .int .u64 seed, .slice a len cap, .slice am lm cm] w fun e w' => e = .returned (.bool true) ∧ Below w.heap.size w w' := by
  have HL := Lib.hid hl
  have HO := Lib.hid ho
  have HL2 := Lib.hid hl2
  have HO2 := Lib.hid ho2
  have HA := Lib.hid (large_any n a len cap ops w hl hm hn0 hn1 ho)
  have HA2 := Lib.hid (large_any n am lm cm more w hl2 hm2 hn0 hn1 ho2)
  clear hl ho hl2 ho2
  go_enter Try.func5, Try.ntmps5
  go_wp2_with fail
  refine HA.out.mono ?_
  rintro e w1 ⟨rfl, b, rfl, hb⟩
  have HF := Lib.hid hb
  clear hb
  cases b
  case true =>
    go_wp2_with fail
    refine (works_ok _).mono ?_
    rintro e w2 ⟨rfl, hb2⟩
    have HB2 := Lib.hid hb2
    clear hb2
    go_wp2
    go_ret
    exact ⟨rfl, HB2.out⟩
  case false =>
    have hfit := HF.out rfl
    have HFT := Lib.hid hfit
    clear hfit
    go_wp2_with fail
    refine HA2.out.mono ?_
    rintro e w1 ⟨rfl, b, rfl, hb⟩
    have HF2 := Lib.hid hb
    clear hb
    cases b
    case true =>
      go_wp2_with fail
      refine (works_ok _).mono ?_
      rintro e w2 ⟨rfl, hb2⟩
      have HB2 := Lib.hid hb2
      clear hb2
      go_wp2
      go_ret
      exact ⟨rfl, HB2.out⟩
    case false =>
    have HFT2 := Lib.hid (HF2.out rfl)
    by_cases hbad : n < 0 ∨ 1048576 < n
    · have HN := Lib.hid (new_bad n st seed w hbad)
      clear hbad
      go_wp2_with fail
      refine HN.out.mono ?_
      rintro e w2 ⟨rfl, rfl⟩
      go_wp2_with fail
      refine HN.out.mono ?_
      rintro e w2 ⟨rfl, rfl⟩
      go_wp2_with fail
      refine HN.out.mono ?_
      rintro e w2 ⟨rfl, rfl⟩
      go_wp2_with fail
      refine (works_ok _).mono ?_
      rintro e w2 ⟨rfl, hb2⟩
      have HB2 := Lib.hid hb2
      clear hb2
      go_wp2
      go_ret
      exact ⟨rfl, HB2.out⟩
    obtain ⟨N, rfl⟩ : ∃ N : Nat, n = N := ⟨n.toNat, by omega⟩
    have hN : N ≤ 100 := by have := HFT.out.n; omega
    have hlen : len ≤ 120 := by have := HFT.out.len; have := HL.out; omega
    have hlen2 : lm ≤ 120 := by have := HFT2.out.len; have := HL2.out; omega
    clear hbad
    have HN := Lib.hid (fun W => new_ok N st seed W (by omega) hs0 hs1)
    have HGN := Lib.hid (Good.new N st seed hs0 hs1)
    clear hs0 hs1 hm hm2 hn0 hn1
    go_wp2_with fail
    refine (HN.out _).mono ?_
    rintro e w2 ⟨g1, p, rfl, h1, hm1, hg1, hb1⟩
    have P1 := Lib.hid h1
    have M1 := Lib.hid hm1
    have B1 := Lib.hid hb1
    clear h1 hm1 hb1 hg1
    go_wp2_with fail
    refine (HN.out _).mono ?_
    rintro e w3 ⟨g2, q, rfl, h1, hm1, hg1, hb1⟩
    have P2 := Lib.hid h1
    have M2 := Lib.hid hm1
    have B2 := Lib.hid hb1
    clear h1 hm1 hb1 hg1
    go_wp2_with fail
    refine (HN.out _).mono ?_
    rintro e w4 ⟨g3, r, rfl, h1, hm1, hg1, hb1⟩
    have P3 := Lib.hid h1
    have M3 := Lib.hid hm1
    have B3 := Lib.hid hb1
    clear h1 hm1 hb1 hg1
    have S0 : Hid (S3 w.heap.size g1 p.sb g2 q.sb g3 r.sb N st w w4 p q r 0) := by
      have z1 := B1.out.size
      have z2 := B2.out.size
      have l1 := P1.out.blk.lt
      have l2 := P1.out.row.lt
      have l3 := P2.out.blk.lt
      have l4 := P2.out.row.lt
      have k1 := P2.out.bg
      have k2 := P2.out.bs
      have k3 := P3.out.bg
      have k4 := P3.out.bs
      exact Lib.hid ⟨⟨(P1.out.below B2.out).below B3.out, ((P2.out.below B3.out).lower z1), rfl, rfl, by omega, by omega, M2.out.trans M1.out.symm⟩,
        P3.out.lower (by omega), rfl, by omega, by omega, by omega, by omega, below_then (below_then B1.out B2.out z1) B3.out (by omega), Nat.le_refl _, by rw [M1.out]; exact HGN.out, by rw [M3.out]; exact HGN.out⟩
    generalize p.sb = s1 at *
    generalize q.sb = s2 at *
    generalize r.sb = s3 at *
    go_wp2_with fail
    go_loopw [17] (fun x wr => ∃ (k : Nat) (p q r : PV), k ≤ len ∧ x = .int .i64 k ∧ S3 w.heap.size g1 s1 g2 s2 g3 s3 N st w wr p q r k) (fun x _ => len - (intOf x).toNat)
    case atStart => exact ⟨0, p, q, r, Nat.zero_le _, rfl, S0.out⟩
    case round =>
      clear S0 M1 M2 M3 P1 P2 P3
      obtain ⟨k, p, q, r, hk, rfl, hst⟩ := hrel
      have ST0 := Lib.hid hst
      clear hst
      by_cases hlt : k < len
      · have hkl : k < ops.length := by rw [HL.out]; exact hlt
        obtain ⟨b, off, rfl, hob, hoc⟩ := (HO.out.below ST0.out.below) (by omega)
        by_cases hmore : k < lm
        · have hkm : k < more.length := by rw [HL2.out]; exact hmore
          obtain ⟨b2, off2, rfl, hob2, hoc2⟩ := (HO2.out.below ST0.out.below) (by omega)
          have hok2 := hoc2 k _ (List.getElem?_eq_getElem hkm)
          have h42 := HFT2.out.each k _ (List.getElem?_eq_getElem hkm)
          generalize more[k] = o2 at *
          have m0 := hok2.k
          have m1 := hok2.v
          have m2 := hok2.s
          have DR := Lib.hid (does_at ST0.out.hr ST0.out.le (Nat.le_refl _) (by have := ST0.out.goodr.tu; have : r.abs.turned = r.turned := rfl; omega) o2 (op_ok hok2 h42) _ rfl)
          have HGR := Lib.hid (ST0.out.goodr.does o2).1
          generalize (doesM r.abs o2).2 = d2 at *
          clear hok2 hoc2 hob2 hkm h42
          go_wp2_with fail
          refine DR.out.mono ?_
          rintro e wa ⟨r', rfl, h3, ha3, hs3, hm3⟩
          have STA := Lib.hid (S3.more ST0.out h3 hs3 (by rw [ha3]; exact HGR.out) hm3)
          have HW := Lib.hid (show Below w.heap.size wr wa from hm3.below (fun i _ e => by
            rcases e with rfl | rfl
            · exact ST0.out.hr.bg
            · exact ST0.out.hr.bs) ST0.out.le)
          clear h3 ha3 hs3 hm3 m0 m1 m2
          have SA := Lib.hid STA.out.drew
          have hok := (OkAt.below (hoc k _ (List.getElem?_eq_getElem hkl)) (HW.out.drew) hob)
          have h4 := HFT.out.each k _ (List.getElem?_eq_getElem hkl)
          generalize ops[k] = o at *
          have HOK := Lib.hid hok
          have HOB := Lib.hid hob
          have c0 : wa.cell? ⟨b, off + k * 3, none⟩ = some (.int .u8 o.kind) := hok.k
          have c1 : wa.cell? ⟨b, off + k * 3 + 1, none⟩ = some (.int .i64 o.v) := hok.v
          have c2 : wa.cell? ⟨b, off + k * 3 + 2, none⟩ = some (.slice o.A o.n o.c) := hok.s
          have HGD := Lib.hid (ST0.out.good.does o).1
          obtain ⟨d, hd⟩ : ∃ d, (doesM p.abs o).2 = d := ⟨_, rfl⟩
          have DP := Lib.hid (does_at SA.out.pair.hp SA.out.le (Nat.le_refl _) (by have := STA.out.good.tu; have : p.abs.turned = p.turned := rfl; omega) o (op_ok hok h4) d hd)
          have DQ := Lib.hid (fun (w4 : World) (hm : Mem.Mod (Two g1 p.sb) wa.drew w4) =>
            does_at (SA.out.mid hm).1 (Nat.le_trans SA.out.le hm.size) (Nat.le_refl _) (by have := STA.out.good.tu; have := congrArg PM.turned STA.out.pair.abs; have : p.abs.turned = p.turned := rfl; have : q.abs.turned = q.turned := rfl; omega) o (op_ok (OkAt.below HOK.out (SA.out.mid hm).2 HOB.out) h4) d (by rw [SA.out.pair.abs]; exact hd))
          have KEEP := Lib.hid (fun (w4 : World) (hb4 : Below w.heap.size wa.drew w4) => (⟨(OkAt.below HOK.out hb4 HOB.out).k, (OkAt.below HOK.out hb4 HOB.out).v, (OkAt.below HOK.out hb4 HOB.out).s⟩ : w4.cell? ⟨b, off + k * 3, none⟩ = some (.int .u8 o.kind) ∧ w4.cell? ⟨b, off + k * 3 + 1, none⟩ = some (.int .i64 o.v) ∧ w4.cell? ⟨b, off + k * 3 + 2, none⟩ = some (.slice o.A o.n o.c)))
          clear hok hd h4 hoc hob hkl
          go_wp2_with fail
          go_region_held3 (fun w' => w'.cell? ⟨b, off + k * 3, none⟩ = some (.int .u8 o.kind) ∧ w'.cell? ⟨b, off + k * 3 + 1, none⟩ = some (.int .i64 o.v) ∧ w'.cell? ⟨b, off + k * 3 + 2, none⟩ = some (.slice o.A o.n o.c)) (first | exact ⟨c0, c1, c2⟩ | exact k1 | exact k2)
            (first
              | (go_at_call_of 13 (Value.pointer (some ⟨g1, 0, none⟩))
                 refine DP.out.mono ?_
                 rintro e w5 ⟨p', rfl, h5, ha5, hs5, hm5⟩
                 have k1 := KEEP.out w5 (SA.out.mid hm5).2
                 have H5 := Lib.hid h5
                 have HA5 := Lib.hid ha5
                 have HS5 := Lib.hid hs5
                 have HM5 := Lib.hid hm5
                 clear h5 ha5 hs5 hm5)
              | (go_at_call_of 13 (Value.pointer (some ⟨g2, 0, none⟩))
                 refine (DQ.out w5 HM5.out).mono ?_
                 rintro e w6 ⟨q', rfl, h6, ha6, hs6, hm6⟩
                 have k2 := KEEP.out w6 ((SA.out.mid HM5.out).2.trans (SA.out.mid2 (SA.out.mid HM5.out).2 hm6))
                 have S6 := Lib.hid (S3.both SA.out H5.out HS5.out HM5.out h6 hs6 hm6 HA5.out (by rw [ha6, SA.out.pair.abs]) HGD.out)
                 clear h6 ha6 hs6 hm6))
          go_wp2
          go_roundw
          case rel => exact ⟨k + 1, _, _, _, by omega, by go_num, S6.out⟩
          case measure => simp [intOf]; omega
        · have STA := Lib.hid ST0.out.next
          have HW := Lib.hid (show Below w.heap.size wr wr from Below.refl _ _)
          have SA := Lib.hid STA.out.drew
          have hok := (OkAt.below (hoc k _ (List.getElem?_eq_getElem hkl)) (HW.out.drew) hob)
          have h4 := HFT.out.each k _ (List.getElem?_eq_getElem hkl)
          generalize ops[k] = o at *
          have HOK := Lib.hid hok
          have HOB := Lib.hid hob
          have c0 : wr.cell? ⟨b, off + k * 3, none⟩ = some (.int .u8 o.kind) := hok.k
          have c1 : wr.cell? ⟨b, off + k * 3 + 1, none⟩ = some (.int .i64 o.v) := hok.v
          have c2 : wr.cell? ⟨b, off + k * 3 + 2, none⟩ = some (.slice o.A o.n o.c) := hok.s
          have HGD := Lib.hid (ST0.out.good.does o).1
          obtain ⟨d, hd⟩ : ∃ d, (doesM p.abs o).2 = d := ⟨_, rfl⟩
          have DP := Lib.hid (does_at SA.out.pair.hp SA.out.le (Nat.le_refl _) (by have := STA.out.good.tu; have : p.abs.turned = p.turned := rfl; omega) o (op_ok hok h4) d hd)
          have DQ := Lib.hid (fun (w4 : World) (hm : Mem.Mod (Two g1 p.sb) wr.drew w4) =>
            does_at (SA.out.mid hm).1 (Nat.le_trans SA.out.le hm.size) (Nat.le_refl _) (by have := STA.out.good.tu; have := congrArg PM.turned STA.out.pair.abs; have : p.abs.turned = p.turned := rfl; have : q.abs.turned = q.turned := rfl; omega) o (op_ok (OkAt.below HOK.out (SA.out.mid hm).2 HOB.out) h4) d (by rw [SA.out.pair.abs]; exact hd))
          have KEEP := Lib.hid (fun (w4 : World) (hb4 : Below w.heap.size wr.drew w4) => (⟨(OkAt.below HOK.out hb4 HOB.out).k, (OkAt.below HOK.out hb4 HOB.out).v, (OkAt.below HOK.out hb4 HOB.out).s⟩ : w4.cell? ⟨b, off + k * 3, none⟩ = some (.int .u8 o.kind) ∧ w4.cell? ⟨b, off + k * 3 + 1, none⟩ = some (.int .i64 o.v) ∧ w4.cell? ⟨b, off + k * 3 + 2, none⟩ = some (.slice o.A o.n o.c)))
          clear hok hd h4 hoc hob hkl
          go_wp2_with fail
          go_region_held3 (fun w' => w'.cell? ⟨b, off + k * 3, none⟩ = some (.int .u8 o.kind) ∧ w'.cell? ⟨b, off + k * 3 + 1, none⟩ = some (.int .i64 o.v) ∧ w'.cell? ⟨b, off + k * 3 + 2, none⟩ = some (.slice o.A o.n o.c)) (first | exact ⟨c0, c1, c2⟩ | exact k1 | exact k2)
            (first
              | (go_at_call_of 13 (Value.pointer (some ⟨g1, 0, none⟩))
                 refine DP.out.mono ?_
                 rintro e w5 ⟨p', rfl, h5, ha5, hs5, hm5⟩
                 have k1 := KEEP.out w5 (SA.out.mid hm5).2
                 have H5 := Lib.hid h5
                 have HA5 := Lib.hid ha5
                 have HS5 := Lib.hid hs5
                 have HM5 := Lib.hid hm5
                 clear h5 ha5 hs5 hm5)
              | (go_at_call_of 13 (Value.pointer (some ⟨g2, 0, none⟩))
                 refine (DQ.out w5 HM5.out).mono ?_
                 rintro e w6 ⟨q', rfl, h6, ha6, hs6, hm6⟩
                 have k2 := KEEP.out w6 ((SA.out.mid HM5.out).2.trans (SA.out.mid2 (SA.out.mid HM5.out).2 hm6))
                 have S6 := Lib.hid (S3.both SA.out H5.out HS5.out HM5.out h6 hs6 hm6 HA5.out (by rw [ha6, SA.out.pair.abs]) HGD.out)
                 clear h6 ha6 hs6 hm6))
          go_wp2
          go_roundw
          case rel => exact ⟨k + 1, _, _, _, by omega, by go_num, S6.out⟩
          case measure => simp [intOf]; omega
      · have HQS := Lib.hid (show q.saved = p.saved from congrArg PM.saved ST0.out.pair.abs)
        have HPL := Lib.hid (show p.saved.length = N from ST0.out.good.len)
        have SV := Lib.hid (saved_ok ST0.out.pair.hp)
        rw [HPL.out] at SV
        go_wp2_with fail
        refine SV.out.mono ?_
        rintro e w5 ⟨g5, cap5, rfl, hg5, hr5, hb5⟩
        have SA := Lib.hid (ST0.out.below_ hb5)
        have R5 := Lib.hid hr5
        have L1 := Lib.hid ST0.out.pair.hp.blk.lt
        have L2 := Lib.hid ST0.out.pair.hq.blk.lt
        have HG5 := Lib.hid hg5
        have SZ := Lib.hid hb5.size
        clear hr5 hb5 hg5
        have SV2 := Lib.hid (saved_ok SA.out.pair.hq)
        rw [HQS.out, HPL.out] at SV2
        go_wp2_with fail
        refine SV2.out.mono ?_
        rintro e w6 ⟨g6, cap6, rfl, hg6, hr6, hb6⟩
        have SB := Lib.hid (SA.out.below_ hb6)
        have R5' := Lib.hid (R5.out.below hb6)
        have R6 := Lib.hid hr6
        have HG6 := Lib.hid hg6
        clear hr6 hb6 hg6
        have D1 := Lib.hid (draw_ok SB.out.pair.hp)
        have D2 := Lib.hid (fun (w7 : World) (hm : Mem.Mod (Two g1 p.sb) w6 w7) => draw_ok (SB.out.mid hm).1)
        have HQT := Lib.hid (show q.state = p.state from congrArg PM.state SB.out.pair.abs)
        rw [HQT.out] at D2
        generalize nextN p.state.toNat = d at *
        go_wp2_with fail
        refine D1.out.mono ?_
        rintro e w7 ⟨rfl, h7, hm7⟩
        have H7 := Lib.hid h7
        have HM7 := Lib.hid hm7
        have HT7 := Lib.hid (hm7.mono (T := Two g1 p.sb) (fun i _ e => .inl e))
        clear h7 hm7
        go_wp2_with fail
        refine (D2.out w7 HT7.out).mono ?_
        rintro e w8 ⟨rfl, h8, hm8⟩
        obtain ⟨p', q', s8⟩ : ∃ p' q', S3 w.heap.size g1 s1 g2 s2 g3 s3 N st w w8 p' q' r k := ⟨_, _, S3.both (m := drawM p.abs) SB.out H7.out rfl HT7.out h8 rfl (hm8.mono (fun i _ e => .inl e)) rfl (show drawM q.abs = drawM p.abs by rw [SB.out.pair.abs]) SB.out.good.draw⟩
        have S8 := Lib.hid s8
        have SZ6 := SB.out.below.size
        have RA : Hid (Row w8 g5 4 (p.saved.map Value.bool) cap5) := Lib.hid ((R5'.out.mod HM7.out (show ¬ g5 = g1 by have := HG5.out; have := L1.out; omega)).mod hm8 (show ¬ g5 = g2 by have := HG5.out; have := L2.out; omega))
        have RB : Hid (Row w8 g6 4 (p.saved.map Value.bool) cap6) := Lib.hid ((R6.out.mod HM7.out (show ¬ g6 = g1 by have := HG6.out; have := L1.out; have := SZ.out; omega)).mod hm8 (show ¬ g6 = g2 by have := HG6.out; have := L2.out; have := SZ.out; omega))
        clear h8 hm8 s8 SZ6
        generalize p.saved = P at *
        go_wp2_with fail
        go_loopw [20] (fun x wr => ∃ i : Nat, i ≤ N ∧ x = .int .i64 i ∧ S3 w.heap.size g1 s1 g2 s2 g3 s3 N st w wr p' q' r k ∧ Row wr g5 4 (P.map Value.bool) cap5 ∧ Row wr g6 4 (P.map Value.bool) cap6) (fun x _ => N - (intOf x).toNat)
        case atStart => exact ⟨0, Nat.zero_le _, rfl, S8.out, RA.out, RB.out⟩
        case round =>
          obtain ⟨i, hi, rfl, hs, hra, hrb⟩ := hrel
          have SC := Lib.hid hs
          have RA1 := Lib.hid hra
          have RB1 := Lib.hid hrb
          clear hs hra hrb
          by_cases hiN : i < N
          · have E1 := Lib.hid (decide_ok SC.out.pair.hp (i + 1) (by omega) (by rw [show p'.saved.length = N from SC.out.good.len]; omega))
            have E2 := Lib.hid (fun (w9 : World) (hb9 : Below wr.heap.size wr w9) => decide_ok (SC.out.pair.hq.below hb9) (i + 1) (by omega) (by rw [show q'.saved.length = N from (congrArg (fun m => m.saved.length) SC.out.pair.abs).trans SC.out.good.len]; omega))
            rw [show decV q' (i + 1) = decV p' (i + 1) by rw [decV_abs, decV_abs, SC.out.pair.abs], show ((i + 1 : Nat) : Int) = (i : Int) + 1 by omega] at E2
            rw [show ((i + 1 : Nat) : Int) = (i : Int) + 1 by omega] at E1
            generalize decV p' (i + 1) = dv at *
            have hi1 : (0 : Int) ≤ i ∧ (i : Int) ≤ 100 := by omega
            go_wp2_with fail
            refine E1.out.mono ?_
            rintro e w9 ⟨rfl, hb9⟩
            have HB9 := Lib.hid hb9
            have E3 := Lib.hid (E2.out w9 hb9)
            clear hb9
            go_wp2_with fail
            refine E3.out.mono ?_
            rintro e w10 ⟨rfl, hb10⟩
            have HB10 := Lib.hid (below_then HB9.out hb10 HB9.out.size)
            clear hb10
            have RA2 := Lib.hid (RA1.out.below HB10.out)
            have RB2 := Lib.hid (RB1.out.below HB10.out)
            have S10 := Lib.hid (SC.out.below_ HB10.out)
            have hPi : i < P.length := by rw [HPL.out]; exact hiN
            have ca : w10.cell? ⟨g5, i, none⟩ = some (.bool (P.getD i false)) := RA2.out.cell (bools_at hPi)
            have cb : w10.cell? ⟨g6, i, none⟩ = some (.bool (P.getD i false)) := RB2.out.cell (bools_at hPi)
            generalize P.getD i false = sv at *
            clear hPi
            cases sv <;> cases dv <;> (go_wp2_with fail; go_quiet (fail); go_wp2; go_roundw; (case rel => exact ⟨i + 1, by omega, by go_num, S10.out.below_ (belowN (Below.refl _ _) _), RA2.out.drewN _, RB2.out.drewN _⟩); (case measure => simp [intOf]; omega))
          · go_wp2_with fail
            refine (works_ok _).mono ?_
            rintro e w9 ⟨rfl, hb9⟩
            have HB9 := Lib.hid (below_then SC.out.below hb9 SC.out.below.size)
            clear hb9
            go_wp2
            go_ret
            exact ⟨rfl, HB9.out⟩
end Go.Proofs.Ytcmicmghnmklnaa.Ph
