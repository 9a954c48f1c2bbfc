/- QueueRow: the walk (2). Condition: the memory. -/
import Derived.Test.YtgldhnjbodmbbaaVe
namespace Go.Proofs.Ytgldhnjbodmbbaa.Qu
open Go.RowKit Go.Proofs.Ytgldhnjbodmbbaa.Mem Go.Proofs.Ytgldhnjbodmbbaa.Sl Go.Shelf
open Go.Proofs.Ytgldhnjbodmbbaa.FnL (enc_at below_then)
open Go.Proofs.Ytgldhnjbodmbbaa.OpQ (OQ Ops Pure)
open Go.Proofs.Ytgldhnjbodmbbaa.Lt (Later wp_region_later)
set_option linter.unusedVariables false

set_option maxRecDepth 100000 in
set_option maxHeartbeats 8000000 in
theorem qrow_walk (n : Int) (a : Option Addr) (len cap : Nat) (ops : List OQ) (w : World) (hl : ops.length = len) (hm : len ≤ 9223372036854775807) (hn0 : -9223372036854775808 ≤ n) (hn1 : n ≤ 9223372036854775807) (ho : Ops w.heap.size w a ops) (hpu : ∀ o, o ∈ ops → Pure o) :
    Calls Try.prog 3 #[.int .i64 n, .slice a len cap] w fun e w' => e = .returned (.bool true) ∧ Below w.heap.size w w' := by
  have HL := Lib.hid hl
  have HO := Lib.hid ho
  have HPU := Lib.hid hpu
  have HA := Lib.hid (large_any n a len cap ops w hl hm hn0 hn1 ho)
  clear hl ho hpu
  go_enter Try.func3, Try.ntmps3
  go_wp2_with fail
  refine HA.out.mono ?_
  rintro e w1 ⟨⟨b, rfl, hb⟩, hb1⟩
  have HF := Lib.hid hb
  have HB1 := Lib.hid hb1
  clear hb hb1
  cases b
  case true =>
    go_wp2_with fail
    refine (works_ok _).mono ?_
    rintro e w2 ⟨rfl, hb2⟩
    have HB2 := Lib.hid (below_then HB1.out hb2 HB1.out.size)
    clear hb2
    go_wp2
    go_ret
    exact ⟨rfl, HB2.out⟩
  case false =>
    have HFT := Lib.hid (HF.out rfl)
    by_cases hbad : n < 0 ∨ 1048576 < n
    · have HN := Lib.hid (fun W => new_bad n hbad W)
      clear hbad
      go_wp2_with fail
      refine (HN.out _).mono ?_
      rintro e w2 ⟨rfl, rfl⟩
      go_wp2_with fail
      refine (works_ok _).mono ?_
      rintro e w2 ⟨rfl, hb2⟩
      have HB2 := Lib.hid (below_then HB1.out hb2 HB1.out.size)
      clear hb2
      go_wp2
      go_ret
      exact ⟨rfl, HB2.out⟩
    obtain ⟨N, rfl⟩ : ∃ N : Nat, n = N := ⟨n.toNat, by omega⟩
    have hN : N ≤ 100 := by have := HFT.out.n; omega
    have hlen : len ≤ 100 := by have := HFT.out.len; have := HL.out; omega
    clear hbad
    have HN := Lib.hid (fun W => qnew_ok N (by omega) W)
    clear hm hn0 hn1
    have mi : ∀ W, (Instr.makeSlice 29 (.int .i64 ((N + 1 : Nat) : Int)) (.int .i64 ((N + 1 : Nat) : Int))).run Try.prog W = .ok (.slice (some ⟨W.heap.size, 0, none⟩) (N + 1) (N + 1)) (W.alloc (.cells (madeCells #[.int .i64 0] (N + 1)) 3)) := fun W =>
      run_make_row' _ _ (.int .i64 0) 8 Try.underlying29 infoI rfl .i64 .i64 (N + 1) (by omega) (by omega) W
    have HMI := Lib.hid mi
    clear mi
    go_wp2_with fail
    refine (HN.out _).mono ?_
    rintro e w2 ⟨q, rfl, hq, hb⟩
    have HR0 := Lib.hid (show RW w w2 q (newQ N) N 0 from ⟨hq.low HB1.out.size, rfl, SM.new N, Int.le_refl _, below_then HB1.out hb HB1.out.size⟩)
    generalize newQ N = m0 at *
    clear hq hb HN HA HF HB1
    go_wp2_with fail
    go_loopw [7] (fun i wr => ∃ (k : Nat) (m : QM), k ≤ len ∧ i = .int .i64 k ∧ RW w wr q m N k) (fun i _ => len - (intOf i).toNat)
    case atStart => exact ⟨0, m0, Nat.zero_le _, rfl, HR0.out⟩
    case round =>
      clear HR0
      obtain ⟨k, m, hk, rfl, hr⟩ := hrel
      have HR := Lib.hid hr
      clear hr
      by_cases hlt : k < len
      · have hkl : k < ops.length := by rw [HL.out]; exact hlt
        have hpu := HPU.out _ (List.getElem_mem hkl)
        have h4 := HFT.out.each k _ (List.getElem?_eq_getElem hkl)
        have HOA := Lib.hid (fun W (hb : Below w.heap.size w W) => (HO.out.below hb) (by omega))
        obtain ⟨b, off, ha, hob, hoc⟩ := HOA.out w (Below.refl _ _)
        subst ha
        have HOK := Lib.hid (fun W (hb : Below w.heap.size w W) => (show OpQ.OkAt w.heap.size W b (off + k * 3) ops[k] from by
          obtain ⟨b', off', e, _, h2⟩ := HOA.out W hb
          cases e
          exact h2 k _ (List.getElem?_eq_getElem hkl)))
        clear hoc HOA
        generalize ops[k] = x at *
        have HPX := Lib.hid hpu
        have HX4 := Lib.hid h4
        have hk0 := (HOK.out w (Below.refl _ _)).k0
        have HTM := Lib.hid (show x.kind.tmod 6 = x.kind % 6 from Int.tmod_eq_emod_of_nonneg hk0)
        clear hpu h4 hkl hob hk0
        go_wp2_with fail
        refine (qorder_ok HR.out.ql).mono ?_
        rintro e w4 ⟨⟨A, c, rfl, hO⟩, hb4⟩
        have HOB := Lib.hid hO
        have HR4 := Lib.hid (HR.out.below hb4)
        have HLW := Lib.hid (Nat.le_trans HR.out.b.size (Nat.le_refl _))
        clear hO hb4
        have c0 := (HOK.out w4 HR4.out.b).k
        have c1 := (HOK.out w4 HR4.out.b).s1
        by_cases hkd : x.kind % 6 > 2
        · have ht : (2 : Int) < x.kind.tmod 6 := by rw [HTM.out]; exact hkd
          have HNX := Lib.hid (show ∃ m', RW w w4 q m' N (k + 1) from ⟨m, HR4.out.next⟩)
          clear hkd HOB
          go_wp2
          go_roundw
          case rel => obtain ⟨m', hm'⟩ := HNX.out; exact ⟨k + 1, m', by omega, by go_num, hm'⟩
          case measure => simp [intOf]; omega
        · have ht : ¬ (2 : Int) < x.kind.tmod 6 := by rw [HTM.out]; omega
          have HBU := Lib.hid (qbump_ok HR4.out.ql (by have := HR4.out.mv; omega) x.A x.n x.c x.l (HOK.out w4 HR4.out.b).n1 ((HOK.out w4 HR4.out.b).r1.rd HR4.out.b.size) (fun y hy => HPX.out.li y hy) (by have := HX4.out; omega))
          clear hkd
          go_wp2_with fail
          refine HBU.out.mono ?_
          rintro e w5 ⟨rfl, hq5, hm5⟩
          have HR5 := Lib.hid (HR4.out.bump hq5 hm5)
          have HOB5 := Lib.hid (HOB.out.mod hm5 (fun i hi _ e => absurd (HR.out.ql.minB e).2 (Nat.not_lt_of_le hi)))
          have hls : m.row.length = N := HR.out.ql.qw.len.trans HR.out.n
          clear hq5 hm5 HBU c0 c1 HOB HR4
          by_cases hbe : bumpE m x.l = 0
          · rw [hbe]
            have HRO := Lib.hid (bumpM_row hbe)
            have HKO := Lib.hid (fun i (hi : i + 1 < m.row.length) hc => keeps_order (l := x.l) HR.out.ql.qw.nd hi hc)
            rw [← HRO.out] at HKO
            have HLS := Lib.hid hls
            rw [hls] at HOB5 ⊢
            clear hbe HRO hls
            obtain ⟨m', hm'⟩ : ∃ m', bumpM m x.l = m' := ⟨_, rfl⟩
            rw [hm'] at HR5 HKO
            have hls' : m'.row.length = N := HR5.out.ql.qw.len.trans HR5.out.n
            have HLS' := Lib.hid hls'
            clear hm'
            go_wp2_with fail
            refine (qorder_ok HR5.out.ql).mono ?_
            rintro e w6 ⟨⟨A6, c6, rfl, hO⟩, hb6⟩
            rw [hls'] at hO ⊢
            have HR6 := Lib.hid (HR5.out.below hb6)
            have HOA6 := Lib.hid (hO.low (Nat.zero_le _))
            have HOB6 := Lib.hid ((HOB5.out.below hb6).low (Nat.zero_le _))
            clear hO hb6 hls' HR5 HOB5
            obtain ⟨M, hM⟩ : ∃ M, N + 1 = M := ⟨_, rfl⟩
            have HM := Lib.hid hM
            have e1 : IntKind.i64.wrap ((N : Int) + 1) = (M : Int) := by rw [IntWalk.i64_in _ (by omega)]; omega
            have mi := HMI.out
            rw [hM] at mi
            clear hM
            go_wp2_with fail
            go_loopw [11] (fun i wr => ∃ j : Nat, j ≤ N ∧ i = .int .i64 j ∧ Blk wr w6.heap.size 3 (arr N (plc m'.row j)).toArray ∧ Below w6.heap.size w6 wr) (fun i _ => N - (intOf i).toNat)
            case atStart => exact ⟨0, Nat.zero_le _, rfl, by rw [plc_zero, ← make_arr, HM.out]; exact Blk.new _ _ _, (Below.refl _ _).alloc (Nat.le_refl _) _⟩
            case round =>
              clear mi e1
              obtain ⟨j, hj, rfl, hbk, hb⟩ := hrel
              have HBK := Lib.hid hbk
              have HB := Lib.hid hb
              clear hbk hb
              by_cases hlj : j < N
              · have hjr : j < m'.row.length := by rw [HLS'.out]; exact hlj
                obtain ⟨ba, eA, hca⟩ := Own.at_ HOA6.out (k := j) (by rw [rowI_len]; exact hjr)
                have hbal := World.block_lt_of_cell? w6 _ hca
                have hp := (HR6.out.ql.qw.mem _).1 (List.getElem_mem hjr)
                rw [HR6.out.n] at hp
                obtain ⟨ya, hya⟩ : ∃ y : Int, ((m'.row[j] : Nat) : Int) = y := ⟨_, rfl⟩
                have hyn : m'.row[j] = ya.toNat := by omega
                have HCA := Lib.hid (fun W (hb : Below w6.heap.size w6 W) => (show W.cell? ⟨ba, j, none⟩ = some (.int .i64 ya) from by rw [← hya]; exact (hb.cell (p := ⟨ba, j, none⟩) hbal).trans (by rw [hca]; unfold rowI; simp)))
                have HCT := Lib.hid (fun W (hb : Below wr.heap.size wr W) => (show W.cell? ⟨w6.heap.size, ya.toNat, none⟩ = some (.int .i64 0) from by
                  rw [(HBK.out.below hb).cell, ← hyn, List.getElem?_toArray, arr_at hp.2, plc_fresh HR6.out.ql.qw.nd hjr]))
                have HNX := Lib.hid (fun W (hb : Below wr.heap.size wr W) => (show Blk (W.setCell ⟨w6.heap.size, ya.toNat, none⟩ (.int .i64 ((j : Int) + 1))) w6.heap.size 3 (arr N (plc m'.row (j + 1))).toArray ∧ Below w6.heap.size w6 (W.setCell ⟨w6.heap.size, ya.toNat, none⟩ (.int .i64 ((j : Int) + 1))) from by
                  refine ⟨?_, (below_then HB.out hb HB.out.size).setCell (p := ⟨w6.heap.size, ya.toNat, none⟩) (Nat.le_refl _) _⟩
                  rw [plc_next HR6.out.ql.qw.nd hjr, ← arr_set, ← hyn]
                  have := (HBK.out.below hb).set_ m'.row[j] (.int .i64 ((j : Int) + 1))
                  simpa using this))
                have HFR := Lib.hid (fun W (hb : Below wr.heap.size wr W) => (HBK.out.below hb).frozen ya.toNat)
                have hy1 : ¬ ya < 1 := by omega
                have hy2 : ¬ (N : Int) < ya := by omega
                have hy3 : ya < (M : Int) := by have := HM.out; omega
                have hy4 : 0 ≤ ya := by omega
                have hstY : stampI m'.N m'.st ya = m'.st m'.row[j] := by
                  unfold stampI; rw [if_neg (by rw [HR6.out.n]; omega), hyn]
                subst eA
                clear hca hbal hp
                rcases j with _ | i
                · clear hstY hya hyn hjr
                  go_upto_region 18 with (fail)
                  have P1 : ∀ p : Later wr, p.w'.cell? ⟨ba, 0, none⟩ = some (.int .i64 ya) := fun p => HCA.out _ (below_then HB.out p.h HB.out.size)
                  have P2 : ∀ p : Later wr, p.w'.cell? ⟨w6.heap.size, ya.toNat, none⟩ = some (.int .i64 0) := fun p => HCT.out _ p.h
                  refine wp_region_later (by kernel_rfl) (by kernel_rfl) ?_
                  repeat (go_big_quiet_step (fail))
                  refine wpQuiet_nil ?_
                  intro wq hw'
                  obtain ⟨p, hp⟩ := hw'
                  have hq : Below wr.heap.size wr wq := hp ▸ p.h
                  have hc1 : wq.cell? ⟨ba, 0, none⟩ = some (.int .i64 ya) := HCA.out _ (below_then HB.out hq HB.out.size)
                  have hc2 := HCT.out wq hq
                  have hc3 := HFR.out wq hq
                  have HN1 := Lib.hid (HNX.out wq hq)
                  clear P1 P2 hq hp p HNX
                  go_wp2
                  go_roundw
                  case rel => exact ⟨0 + 1, by omega, by go_num, HN1.out.1, HN1.out.2⟩
                  case measure => simp [intOf]; omega
                · have hir : i < m'.row.length := by omega
                  obtain ⟨ba2, eA2, hci⟩ := Own.at_ HOA6.out (k := i) (by rw [rowI_len]; exact hir)
                  have hba : ba = ba2 := by injection eA2 with e; injection e
                  subst hba
                  have hbal := World.block_lt_of_cell? w6 _ hci
                  have hp := (HR6.out.ql.qw.mem _).1 (List.getElem_mem hir)
                  rw [HR6.out.n] at hp
                  obtain ⟨yb, hyb⟩ : ∃ y : Int, ((m'.row[i] : Nat) : Int) = y := ⟨_, rfl⟩
                  have hybn : m'.row[i] = yb.toNat := by omega
                  have HCB := Lib.hid (fun W (hb : Below w6.heap.size w6 W) => (show W.cell? ⟨ba, i, none⟩ = some (.int .i64 yb) from by rw [← hyb]; exact (hb.cell (p := ⟨ba, i, none⟩) hbal).trans (by rw [hci]; unfold rowI; simp)))
                  have hstZ : stampI m'.N m'.st yb = m'.st m'.row[i] := by
                    unfold stampI; rw [if_neg (by rw [HR6.out.n]; omega), hybn]
                  have hsm := List.pairwise_iff_getElem.1 HR6.out.sm i (i + 1) hir hjr (by omega)
                  rw [← hstZ, ← hstY] at hsm
                  have HSA := Lib.hid (fun W (hb : Below w6.heap.size w6 W) => qstamp_ok (HR6.out.ql.below hb) ya)
                  have HSB := Lib.hid (fun W (hb : Below w6.heap.size w6 W) => qstamp_ok (HR6.out.ql.below hb) yb)
                  clear hstY hya hyn hstZ hyb hybn hci hbal hp eA2 hjr
                  generalize stampI m'.N m'.st ya = sa at *
                  generalize stampI m'.N m'.st yb = sb at *
                  have hs1 : ¬ sa < sb := by omega
                  have hj1 : IntKind.i64.wrap (((i + 1 : Nat) : Int) - 1) = (i : Int) := by rw [IntWalk.i64_in _ (by omega)]; omega
                  have hj2 : (0 : Int) < ((i + 1 : Nat) : Int) := by omega
                  have hj3 : (i : Int) < (N : Int) := by omega
                  have hj4 : (0 : Int) ≤ (i : Int) := by omega
                  clear hsm hir
                  go_upto_region 18 with (fail)
                  have P1 : ∀ p : Later wr, p.w'.cell? ⟨ba, i + 1, none⟩ = some (.int .i64 ya) := fun p => HCA.out _ (below_then HB.out p.h HB.out.size)
                  have P2 : ∀ p : Later wr, p.w'.cell? ⟨w6.heap.size, ya.toNat, none⟩ = some (.int .i64 0) := fun p => HCT.out _ p.h
                  have P3 : ∀ p : Later wr, p.w'.cell? ⟨ba, i, none⟩ = some (.int .i64 yb) := fun p => HCB.out _ (below_then HB.out p.h HB.out.size)
                  have M1 := Lib.hid (Later.meet (w := wr) fun W' hb => (HSA.out W' (below_then HB.out hb HB.out.size)).mono fun e w' h => ⟨h.1, by rw [← h.2]; exact Below.refl _ _⟩)
                  have M2 := Lib.hid (Later.meet (w := wr) fun W' hb => (HSB.out W' (below_then HB.out hb HB.out.size)).mono fun e w' h => ⟨h.1, by rw [← h.2]; exact Below.refl _ _⟩)
                  refine wp_region_later (by kernel_rfl) (by kernel_rfl) ?_
                  repeat (go_big_quiet_step ((go_at_call 13; first | with_reducible exact M1.out _ | with_reducible exact M2.out _)))
                  refine wpQuiet_nil ?_
                  intro wq hw'
                  obtain ⟨p, hp⟩ := hw'
                  have hq : Below wr.heap.size wr wq := hp ▸ p.h
                  have hc1 : wq.cell? ⟨ba, i + 1, none⟩ = some (.int .i64 ya) := HCA.out _ (below_then HB.out hq HB.out.size)
                  have hc2 := HCT.out wq hq
                  have hc3 := HFR.out wq hq
                  have HN1 := Lib.hid (HNX.out wq hq)
                  clear P1 P2 P3 M1 M2 hq hp p HNX
                  go_wp2
                  go_roundw
                  case rel => exact ⟨i + 1 + 1, by omega, by go_num, HN1.out.1, HN1.out.2⟩
                  case measure => simp [intOf]; omega
              · have HPA := Lib.hid (show Blk wr w6.heap.size 3 (arr N (plc m'.row m'.row.length)).toArray from by have := HBK.out; rwa [show j = m'.row.length by rw [HLS'.out]; omega] at this)
                clear HBK
                go_wp2_with fail
                go_loopw [12] (fun i w2 => ∃ t : Nat, 1 ≤ t ∧ (t ≤ N ∨ t = 1) ∧ i = .int .i64 t ∧ Blk w2 w6.heap.size 3 (arr N (plc m'.row m'.row.length)).toArray ∧ Below w6.heap.size w6 w2) (fun i _ => N + 1 - (intOf i).toNat)
                case atStart => exact ⟨1, Nat.le_refl _, .inr rfl, rfl, HPA.out, HB.out⟩
                case round =>
                  clear HPA HB
                  obtain ⟨t, ht1, ht2, rfl, hbk, hb⟩ := hrel
                  have HBK := Lib.hid hbk
                  have HB := Lib.hid hb
                  clear hbk hb
                  by_cases hlt3 : t < N
                  · obtain ⟨i, rfl⟩ : ∃ i, t = i + 1 := ⟨t - 1, by omega⟩
                    have hir : i + 1 < m.row.length := by rw [HLS.out]; exact hlt3
                    have hi0 : i < m.row.length := by omega
                    obtain ⟨bb, eB, hca⟩ := Own.at_ HOB6.out (k := i) (by rw [rowI_len]; exact hi0)
                    obtain ⟨bb2, eB2, hcb⟩ := Own.at_ HOB6.out (k := i + 1) (by rw [rowI_len]; exact hir)
                    subst eB
                    have hbb : bb = bb2 := by injection eB2 with e; injection e
                    subst hbb
                    have hbal := World.block_lt_of_cell? w6 _ hca
                    have hpa := (HR.out.ql.qw.mem _).1 (List.getElem_mem hi0)
                    have hpb := (HR.out.ql.qw.mem _).1 (List.getElem_mem hir)
                    rw [HR.out.n] at hpa hpb
                    have hko := HKO.out i hir
                    have hma := plc_all ((HR6.out.ql.qw.mem m.row[i]).2 ⟨hpa.1, by rw [HR6.out.n]; exact hpa.2⟩)
                    have hmb := plc_all ((HR6.out.ql.qw.mem m.row[i + 1]).2 ⟨hpb.1, by rw [HR6.out.n]; exact hpb.2⟩)
                    obtain ⟨pa, hPA⟩ : ∃ p, ((m'.row.idxOf m.row[i] : Nat) : Int) + 1 = p := ⟨_, rfl⟩
                    obtain ⟨pb, hPB⟩ : ∃ p, ((m'.row.idxOf m.row[i + 1] : Nat) : Int) + 1 = p := ⟨_, rfl⟩
                    rw [hPA] at hma
                    rw [hPB] at hmb
                    obtain ⟨ya, hya⟩ : ∃ y : Int, ((m.row[i] : Nat) : Int) = y := ⟨_, rfl⟩
                    obtain ⟨yb, hyb⟩ : ∃ y : Int, ((m.row[i + 1] : Nat) : Int) = y := ⟨_, rfl⟩
                    rw [hya, hyb] at hko
                    have HCA := Lib.hid (fun W (hb : Below w6.heap.size w6 W) => (show W.cell? ⟨bb, i, none⟩ = some (.int .i64 ya) from by rw [← hya]; exact (hb.cell (p := ⟨bb, i, none⟩) hbal).trans (by rw [hca]; unfold rowI; simp)))
                    have HCB := Lib.hid (fun W (hb : Below w6.heap.size w6 W) => (show W.cell? ⟨bb, i + 1, none⟩ = some (.int .i64 yb) from by rw [← hyb]; exact (hb.cell (p := ⟨bb, i + 1, none⟩) hbal).trans (by rw [hcb]; unfold rowI; simp)))
                    have HTA := Lib.hid (fun W (hb : Below wr.heap.size wr W) => (show W.cell? ⟨w6.heap.size, ya.toNat, none⟩ = some (.int .i64 pa) from by
                      rw [(HBK.out.below hb).cell, show ya.toNat = m.row[i] by omega, List.getElem?_toArray, arr_at hpa.2, hma]))
                    have HTB := Lib.hid (fun W (hb : Below wr.heap.size wr W) => (show W.cell? ⟨w6.heap.size, yb.toNat, none⟩ = some (.int .i64 pb) from by
                      rw [(HBK.out.below hb).cell, show yb.toNat = m.row[i + 1] by omega, List.getElem?_toArray, arr_at hpb.2, hmb]))
                    have HIA := Lib.hid (fun W (hb : Below w.heap.size w W) => in_any (w := W) x.A x.n x.c x.l (HOK.out W hb).n1 ((HOK.out W hb).r1.rd hb.size) (by have := HX4.out; have := (HOK.out W hb).n1; omega) ya)
                    have HIB := Lib.hid (fun W (hb : Below w.heap.size w W) => in_any (w := W) x.A x.n x.c x.l (HOK.out W hb).n1 ((HOK.out W hb).r1.rd hb.size) (by have := HX4.out; have := (HOK.out W hb).n1; omega) yb)
                    have hkp : (x.l.contains ya = x.l.contains yb ∨ x.l.contains yb = true ∧ x.l.contains ya = false) → ¬ pb < pa := fun h => by have := hko h; omega
                    have hy1 : ya < (M : Int) := by have := HM.out; omega
                    have hy2 : 0 ≤ ya := by omega
                    have hy3 : yb < (M : Int) := by have := HM.out; omega
                    have hy4 : 0 ≤ yb := by omega
                    have hj1 : IntKind.i64.wrap (((i + 1 : Nat) : Int) - 1) = (i : Int) := by rw [IntWalk.i64_in _ (by omega)]; omega
                    have hj3 : (i : Int) < (N : Int) := by omega
                    have hj4 : (0 : Int) ≤ (i : Int) := by omega
                    have HBW := Lib.hid (below_then HR6.out.b HB.out HR6.out.b.size)
                    clear hko hma hmb hPA hPB hya hyb hpa hpb hbal hca hcb eB2 hir hi0
                    generalize x.l.contains ya = ca at *
                    generalize x.l.contains yb = cb at *
                    go_upto_region 24 with (fail)
                    have P1 : ∀ p : Later wr, p.w'.cell? ⟨bb, i, none⟩ = some (.int .i64 ya) := fun p => HCA.out _ (below_then HB.out p.h HB.out.size)
                    have P2 : ∀ p : Later wr, p.w'.cell? ⟨bb, i + 1, none⟩ = some (.int .i64 yb) := fun p => HCB.out _ (below_then HB.out p.h HB.out.size)
                    refine wp_region_later (by kernel_rfl) (by kernel_rfl) ?_
                    repeat (go_big_quiet_step (fail))
                    refine wpQuiet_nil ?_
                    intro wq hw'
                    obtain ⟨p, hp⟩ := hw'
                    have hq : Below wr.heap.size wr wq := hp ▸ p.h
                    have HQ := Lib.hid hq
                    clear P1 P2 hq hp p
                    go_upto_region 25 with (fail)
                    have P0 := fun (p : Later wq) => (HOK.out p.w' (below_then (below_then HBW.out HQ.out HBW.out.size) p.h (Nat.le_trans HBW.out.size HQ.out.size))).s1
                    have P1 : ∀ p : Later wq, p.w'.cell? ⟨w6.heap.size, ya.toNat, none⟩ = some (.int .i64 pa) := fun p => HTA.out _ (below_then HQ.out p.h HQ.out.size)
                    have P2 : ∀ p : Later wq, p.w'.cell? ⟨w6.heap.size, yb.toNat, none⟩ = some (.int .i64 pb) := fun p => HTB.out _ (below_then HQ.out p.h HQ.out.size)
                    have M1 := Lib.hid (Later.meet (w := wq) fun W' hb => (HIA.out W' (below_then (below_then HBW.out HQ.out HBW.out.size) hb (Nat.le_trans HBW.out.size HQ.out.size))).mono fun e w' h => ⟨h.1, by rw [← h.2]; exact Below.refl _ _⟩)
                    have M2 := Lib.hid (Later.meet (w := wq) fun W' hb => (HIB.out W' (below_then (below_then HBW.out HQ.out HBW.out.size) hb (Nat.le_trans HBW.out.size HQ.out.size))).mono fun e w' h => ⟨h.1, by rw [← h.2]; exact Below.refl _ _⟩)
                    clear HIA HIB HTA HTB HCA HCB
                    have HQ2 := Lib.hid (fun W (hb : Below wq.heap.size wq W) => (show Blk W w6.heap.size 3 (arr N (plc m'.row m'.row.length)).toArray ∧ Below w6.heap.size w6 W from ⟨(HBK.out.below HQ.out).below hb, below_then (below_then HB.out HQ.out HB.out.size) hb (Nat.le_trans HB.out.size HQ.out.size)⟩))
                    rcases ca with _ | _ <;> rcases cb with _ | _
                    all_goals first
                      | have hlt4 : ¬ pb < pa := hkp (by decide)
                      | skip
                    all_goals
                      clear hkp
                      refine wp_region_later (by kernel_rfl) (by kernel_rfl) ?_
                      repeat (go_big_quiet_step ((go_at_call 14; first | with_reducible exact M1.out _ | with_reducible exact M2.out _)))
                      refine wpQuiet_nil ?_
                      intro wz hw'
                      obtain ⟨p, hp⟩ := hw'
                      have HZ := Lib.hid (HQ2.out wz (hp ▸ p.h))
                      clear P0 P1 P2 M1 M2 hp p HQ2
                      go_wp2
                      go_roundw
                      case rel => exact ⟨i + 1 + 1, by omega, by omega, by go_num, HZ.out.1, HZ.out.2⟩
                      case measure => simp [intOf]; omega
                  · go_wp2
                    go_roundw
                    case rel => exact ⟨k + 1, m', by omega, by go_num, HR6.out.below HB.out⟩
                    case measure => simp [intOf]; omega
          · have hbe2 : (bumpE m x.l != 0) = true := by simpa using hbe
            clear hbe HOB5
            generalize bumpE m x.l = ee at *
            go_wp2
            go_roundw
            case rel => exact ⟨k + 1, _, by omega, by go_num, HR5.out⟩
            case measure => simp [intOf]; omega
      · have HRB := Lib.hid HR.out.b
        go_wp2_with fail
        refine (works_ok _).mono ?_
        rintro e wx ⟨rfl, hbx⟩
        have HBX := Lib.hid (below_then HRB.out hbx HRB.out.size)
        clear hbx
        go_wp2
        go_ret
        exact ⟨rfl, HBX.out⟩
end Go.Proofs.Ytgldhnjbodmbbaa.Qu
