/- Arena, the statements' one: a call of both. Conditions: the memory, at most 1048576 literals a clause, a million clauses. (Printed by gen_bf.py.) -/
import Derived.Test.YtenadnmglhghiaaBe
namespace Go.Proofs.Ytenadnmglhghiaa.Ar
open Go.RowKit Go.Proofs.Ytenadnmglhghiaa.Mem Go.Proofs.Ytenadnmglhghiaa.Sl Go.Shelf
open Go.Proofs.Ytenadnmglhghiaa.FnL (enc_at below_then)
open Go.Proofs.Ytenadnmglhghiaa.Lt (Later wp_region_later)
set_option linter.unusedVariables false

section
variable {w : World} {B gd : Nat} {q : AAd} {S : Nat → Prop} {lim : Int} {its : List Itm}
set_option maxRecDepth 100000 in
set_option maxHeartbeats 8000000 in
theorem one_any (h : AR w B q lim its) (hd : RX w B S gd lim its) (hap : ∀ i, S i → ¬ mq q i) (hB : B ≤ w.heap.size) (hs : Sm its) (hn : its.length ≤ 1000000) (s : St) (ok : StOk B w s) (hsl : s.ln ≤ 1048576) :
    Calls Try.prog 21 #[.pointer (some ⟨q.g, 0, none⟩), .pointer (some ⟨gd, 0, none⟩), .agg s.row.toArray] w (OneR w B q.g gd lim its) := by
  have HP := Lib.hid (fun W => pick_any s.k ok.kb.1 ok.kb.2 8 (by omega) (by omega) W)
  have hp0 := pickI_bd s.k (n := 8) (by omega)
  obtain ⟨Wb, hWb⟩ : ∃ Wb, Wb = w.alloc (.cells #[.int .i64 s.k, .int .i64 s.id, .slice s.A s.ln s.lc, .bool s.red, .int .i64 s.r, .bool s.loose, .int .i64 s.i, .int .i64 s.j] 57) := ⟨_, rfl⟩
  have hb0 : Below w.heap.size w Wb := hWb ▸ below_al _ _
  have hmq : ¬ mq q w.heap.size := fun hi => by have := h.lt hi; omega
  have hmS : ¬ S w.heap.size := fun hi => by have := (RX.lt hd hi).2; omega
  have HT := Lib.hid (show TwS Wb B q S gd lim its its w.heap.size #[.int .i64 s.k, .int .i64 s.id, .slice s.A s.ln s.lc, .bool s.red, .int .i64 s.r, .bool s.loose, .int .i64 s.i, .int .i64 s.j] from ⟨h.below hb0, hd.below hb0, hap, Nat.le_trans hB hb0.size, hWb ▸ Blk.new w _ _, hmq, hmS⟩)
  have HB0 := Lib.hid (show Below B w Wb from hb0.mono hB)
  have HW := Lib.hid hWb
  have HOK := Lib.hid ok
  have HSM := Lib.hid hs
  have HRF := Lib.hid (hd.below hb0).refs_any
  have hrn : (refs its).length ≤ 1000000 := by
    rw [← keep_len]
    unfold keep
    rw [List.length_map]
    exact Nat.le_trans (List.length_filter_le _ _) hn
  have HRB := Lib.hid hd.bd.2.2.2
  have HBS := Lib.hid hB
  obtain ⟨sB, hsB⟩ : ∃ b, b = w.heap.size := ⟨_, rfl⟩
  clear h hd hap ok hs hWb hb0 hmq hmS hn
  unfold RRefsR at HRF
  generalize hrf : refs its = rf at *
  obtain ⟨n, hn⟩ : ∃ n, rf.length = n := ⟨_, rfl⟩
  have HN := Lib.hid hn
  rw [hn] at HRF hrn
  have HRL := Lib.hid (show (refs its).length = n from by rw [hrf]; exact hn)
  clear hn hrf
  rw [show s.row.toArray = #[.int .i64 s.k, .int .i64 s.id, .slice s.A s.ln s.lc, .bool s.red, .int .i64 s.r, .bool s.loose, .int .i64 s.i, .int .i64 s.j] from rfl]
  have c4 : Wb.cell? ⟨w.heap.size, 4, none⟩ = some (.int .i64 s.r) := HT.out.bk.cell 4
  go_enter Try.func21, Try.ntmps21
  go_upto_region 1 with (fail)
  rw [show w.alloc (.cells #[.int .i64 s.k, .int .i64 s.id, .slice s.A s.ln s.lc, .bool s.red, .int .i64 s.r, .bool s.loose, .int .i64 s.i, .int .i64 s.j] 57) = Wb from HW.out.symm]
  go_wp2_with fail
  refine HRF.out.mono ?_
  rintro e w2 ⟨⟨A2, c2, rfl, hO2⟩, hb2⟩
  have HO2 := Lib.hid hO2
  have HT2 := Lib.hid (HT.out.below hb2)
  have HB2 := Lib.hid (HB0.out.trans (hb2.mono HT.out.le))
  clear hO2 hb2 c4 HT HB0 HW HRF
  have c4 : w2.cell? ⟨w.heap.size, 4, none⟩ = some (.int .i64 s.r) := HT2.out.bk.cell 4
  have c5 : w2.cell? ⟨w.heap.size, 5, none⟩ = some (.bool s.loose) := HT2.out.bk.cell 5
  rw [← hsB] at *
  go_upto_region 3 with (fail)
  go_cut [30] from 23 to 30 (fun b wx => ∃ bk, b = .bool bk ∧ (bk = true → 0 < n) ∧ w2 = wx)
  case first =>
    obtain ⟨lo, hlo⟩ : ∃ lo, s.loose = lo := ⟨_, rfl⟩
    rw [hlo] at c5
    rcases lo with _ | _
    · by_cases h0 : 0 < n
      · go_wp2
        go_meet
        case rel => exact ⟨true, by simp, fun _ => h0, rfl⟩
      · have hn0 : n = 0 := by omega
        subst hn0
        go_wp2
        go_meet
        case rel => exact ⟨false, rfl, fun e => (by cases e), rfl⟩
    · go_wp2
      go_meet
      case rel => exact ⟨false, rfl, fun e => (by cases e), rfl⟩
  case rest =>
    obtain ⟨bk, rfl, hbk, rfl⟩ := hcut
    go_upto_if 30 with (fail)
    go_cut [7] from 31 to 38 (fun r wx => ∃ R : Int, r = .int .i64 R ∧ inI R ∧ w2 = wx)
    case first =>
      rcases bk with _ | _
      · go_wp2
        go_meet
        case rel => exact ⟨s.r, rfl, HOK.out.rb, rfl⟩
      · have hn0 : 0 < n := hbk rfl
        have HPK := Lib.hid (pick_any s.r HOK.out.rb.1 HOK.out.rb.2 n (by omega) (by omega) w2)
        have hp := pickI_bd s.r (n := (n : Int)) (by omega)
        obtain ⟨j, hj⟩ : ∃ j : Nat, pickI s.r n = j := ⟨(pickI s.r n).toNat, by omega⟩
        rw [hj] at HPK hp
        clear hj
        have hjr : j < rf.length := by rw [HN.out]; omega
        obtain ⟨ga, eA, _, hrow⟩ := HO2.out.row (by omega)
        subst eA
        have cj : w2.cell? ⟨ga, j, none⟩ = some (.int .i64 (rf[j] : Nat)) := hrow.cell (by unfold IZ NZ; rw [List.getElem?_map, List.getElem?_map, List.getElem?_eq_getElem hjr]; rfl)
        have hrb : rf[j] ≤ 268435456 := HRB.out _ (List.getElem_mem hjr)
        have hjn : j < n := by omega
        generalize rf[j] = R at *
        clear hrow hjr hbk
        go_wp2_with fail
        refine HPK.out.mono ?_
        rintro e w3 ⟨rfl, rfl⟩
        go_wp2
        go_meet
        case rel => exact ⟨(R : Nat), rfl, by unfold inI; omega, rfl⟩
    case rest =>
      obtain ⟨R, rfl, hR, rfl⟩ := hcut
      have HR := Lib.hid hR
      clear hR hbk c4 c5 HO2 HRB HN
      have c0 : w2.cell? ⟨sB, 0, none⟩ = some (.int .i64 s.k) := HT2.out.bk.cell 0
      generalize pickI s.k 8 = p at *
      have HPW := Lib.hid ((HP.out w2).mono fun e w' h => (show e = .returned (.int .i64 p) ∧ w2 = w' from ⟨h.1, h.2.symm⟩))
      clear HP
      by_cases p3 : p = 3
      · subst p3
        have HC1 := Lib.hid (kill_any HT2.out.a R HR.out)
        have HSK := Lib.hid (sm_kill HSM.out R)
        have HC2 := Lib.hid (fun W (hd : RX W B S gd lim its) (hB : B ≤ W.heap.size) => hd.kill_any hB R)
        generalize hk : killM its R = km at *
        clear hp0 hk
        go_wp2_with fail
        refine HPW.out.mono ?_
        rintro e w3 ⟨rfl, rfl⟩
        go_wp2_with fail
        refine HC1.out.mono ?_
        rintro e w4 ⟨rfl, h4, m4⟩
        have HT4 := Lib.hid (HT2.out.stepA h4 m4 (fun i hi => .inl hi))
        clear h4 m4
        go_wp2_with fail
        refine (HC2.out w4 HT4.out.1.d HT4.out.1.le).mono ?_
        rintro e w5 ⟨rfl, h5⟩
        have HT5 := Lib.hid (HT4.out.1.stepD h5)
        clear h5
        go_wp2
        go_ret
        exact ⟨rfl, ⟨_, HSK.out.1, HSK.out.2, HT5.out.1.two⟩, (HB2.out.trans HT4.out.2).trans HT5.out.2⟩
      by_cases p4 : p = 4
      · subst p4
        have HT2d := Lib.hid (HT2.out.below (w' := w2.drew) ((Below.refl _ _).drew))
        have HC1 := Lib.hid (shrink_any HT2d.out.a R HR.out s.i HOK.out.n1)
        have HSK := Lib.hid (sm_shrink HSM.out R s.i)
        have HC2 := Lib.hid (fun W (hd : RX W B S gd lim its) (hB : B ≤ W.heap.size) => hd.shrink_any hB R s.i HOK.out.n1)
        have k0 : w2.cell? ⟨sB, 6, none⟩ = some (.int .i64 s.i) := HT2.out.bk.cell 6
        generalize hk : shrinkM its R s.i = km at *
        clear hp0 hk p3
        go_wp2_with fail
        refine HPW.out.mono ?_
        rintro e w3 ⟨rfl, rfl⟩
        go_wp2_with fail
        go_region_held3 (fun w' => w'.cell? ⟨sB, 6, none⟩ = some (.int .i64 s.i)) (first | exact k0 | exact k1 | exact k2)
          (first
            | (go_at_call 24
               refine HC1.out.mono ?_
               rintro e w4 ⟨rfl, h4, m4⟩
               have HT4 := Lib.hid (HT2d.out.stepA h4 m4 (fun i hi => .inl hi))
               have k1 : w4.cell? ⟨sB, 6, none⟩ = some (.int .i64 s.i) := HT4.out.1.bk.cell 6
               clear h4 m4)
            | (go_at_call 36
               refine (HC2.out w4 HT4.out.1.d HT4.out.1.le).mono ?_
               rintro e w5 ⟨rfl, h5⟩
               have HT5 := Lib.hid (HT4.out.1.stepD h5)
               have k2 : w5.cell? ⟨sB, 6, none⟩ = some (.int .i64 s.i) := HT5.out.1.bk.cell 6
               clear h5))
        go_wp2
        go_ret
        exact ⟨rfl, ⟨_, HSK.out.1, HSK.out.2, HT5.out.1.two⟩, ((HB2.out.trans ((Below.refl _ _).drew)).trans HT4.out.2).trans HT5.out.2⟩
      by_cases p5 : p = 5
      · subst p5
        have HT2d := Lib.hid (HT2.out.below (w' := w2.drew) ((Below.refl _ _).drew))
        have HC1 := Lib.hid (swap_any HT2d.out.a R HR.out s.i s.j HOK.out.n1 HOK.out.n2)
        have HSK := Lib.hid (sm_swap HSM.out R s.i s.j)
        have HC2 := Lib.hid (fun W (hd : RX W B S gd lim its) (hB : B ≤ W.heap.size) => hd.swap_any hB R s.i s.j HOK.out.n1 HOK.out.n2)
        have k0 : w2.cell? ⟨sB, 6, none⟩ = some (.int .i64 s.i) ∧ w2.cell? ⟨sB, 7, none⟩ = some (.int .i64 s.j) := ⟨HT2.out.bk.cell 6, HT2.out.bk.cell 7⟩
        generalize hk : swapM its R s.i s.j = km at *
        clear hp0 hk p3 p4
        go_wp2_with fail
        refine HPW.out.mono ?_
        rintro e w3 ⟨rfl, rfl⟩
        go_wp2_with fail
        go_region_held3 (fun w' => w'.cell? ⟨sB, 6, none⟩ = some (.int .i64 s.i) ∧ w'.cell? ⟨sB, 7, none⟩ = some (.int .i64 s.j)) (first | exact k0 | exact k1 | exact k2)
          (first
            | (go_at_call 25
               refine HC1.out.mono ?_
               rintro e w4 ⟨rfl, h4, m4⟩
               have HT4 := Lib.hid (HT2d.out.stepA h4 m4 (fun i hi => .inl hi))
               have k1 : w4.cell? ⟨sB, 6, none⟩ = some (.int .i64 s.i) ∧ w4.cell? ⟨sB, 7, none⟩ = some (.int .i64 s.j) := ⟨HT4.out.1.bk.cell 6, HT4.out.1.bk.cell 7⟩
               clear h4 m4)
            | (go_at_call 37
               refine (HC2.out w4 HT4.out.1.d HT4.out.1.le).mono ?_
               rintro e w5 ⟨rfl, h5⟩
               have HT5 := Lib.hid (HT4.out.1.stepD h5)
               have k2 : w5.cell? ⟨sB, 6, none⟩ = some (.int .i64 s.i) ∧ w5.cell? ⟨sB, 7, none⟩ = some (.int .i64 s.j) := ⟨HT5.out.1.bk.cell 6, HT5.out.1.bk.cell 7⟩
               clear h5))
        go_wp2
        go_ret
        exact ⟨rfl, ⟨_, HSK.out.1, HSK.out.2, HT5.out.1.two⟩, ((HB2.out.trans ((Below.refl _ _).drew)).trans HT4.out.2).trans HT5.out.2⟩
      by_cases p6 : p = 6
      · subst p6
        have HT2d := Lib.hid (HT2.out.below (w' := w2.drew) ((Below.refl _ _).drew))
        have HC1 := Lib.hid (mark_any HT2d.out.a R HR.out s.i s.j HOK.out.n1 HOK.out.n2)
        have HSK := Lib.hid (sm_mark HSM.out R s.i s.j)
        have HC2 := Lib.hid (fun W (hd : RX W B S gd lim its) (hB : B ≤ W.heap.size) => hd.mark_any hB R s.i s.j)
        have k0 : w2.cell? ⟨sB, 6, none⟩ = some (.int .i64 s.i) ∧ w2.cell? ⟨sB, 7, none⟩ = some (.int .i64 s.j) := ⟨HT2.out.bk.cell 6, HT2.out.bk.cell 7⟩
        generalize hk : markM its R s.i s.j = km at *
        clear hp0 hk p3 p4 p5
        go_wp2_with fail
        refine HPW.out.mono ?_
        rintro e w3 ⟨rfl, rfl⟩
        go_wp2_with fail
        go_region_held3 (fun w' => w'.cell? ⟨sB, 6, none⟩ = some (.int .i64 s.i) ∧ w'.cell? ⟨sB, 7, none⟩ = some (.int .i64 s.j)) (first | exact k0 | exact k1 | exact k2)
          (first
            | (go_at_call 26
               refine HC1.out.mono ?_
               rintro e w4 ⟨rfl, h4, m4⟩
               have HT4 := Lib.hid (HT2d.out.stepA h4 m4 (fun i hi => .inl hi))
               have k1 : w4.cell? ⟨sB, 6, none⟩ = some (.int .i64 s.i) ∧ w4.cell? ⟨sB, 7, none⟩ = some (.int .i64 s.j) := ⟨HT4.out.1.bk.cell 6, HT4.out.1.bk.cell 7⟩
               clear h4 m4)
            | (go_at_call 38
               refine (HC2.out w4 HT4.out.1.d HT4.out.1.le).mono ?_
               rintro e w5 ⟨rfl, h5⟩
               have HT5 := Lib.hid (HT4.out.1.stepD h5)
               have k2 : w5.cell? ⟨sB, 6, none⟩ = some (.int .i64 s.i) ∧ w5.cell? ⟨sB, 7, none⟩ = some (.int .i64 s.j) := ⟨HT5.out.1.bk.cell 6, HT5.out.1.bk.cell 7⟩
               clear h5))
        go_wp2
        go_ret
        exact ⟨rfl, ⟨_, HSK.out.1, HSK.out.2, HT5.out.1.two⟩, ((HB2.out.trans ((Below.refl _ _).drew)).trans HT4.out.2).trans HT5.out.2⟩
      by_cases p7 : p = 7
      · subst p7
        have HC1 := Lib.hid (collect_any HT2.out.a HT2.out.le)
        have HSK := Lib.hid (sm_keep HSM.out)
        have HC2 := Lib.hid (fun W (hd : RX W B S gd lim its) (hB : B ≤ W.heap.size) => hd.collect_any hB)
        have hrk : (refs (keep its)).length = n := by rw [keep_refs_len]; exact HRL.out
        have HRK := Lib.hid hrk
        have hn2 : n ≤ 1000000 := hrn
        have HS2 := Lib.hid (fun i (hi : S i) => (RX.lt HT2.out.d hi).2)
        unfold CollectR at HC1
        unfold RCollR at HC2
        rw [HRL.out] at HC1 HC2
        clear hp0 p3 p4 p5 p6 hrk
        go_wp2_with fail
        refine HPW.out.mono ?_
        rintro e w3 ⟨rfl, rfl⟩
        go_wp2_with fail
        refine HC1.out.mono ?_
        rintro e w4 ⟨⟨A3, c3, rfl, hS3⟩, ⟨q2, hq2, h4, hqq⟩, m4⟩
        have HT4 := Lib.hid (HT2.out.stepA h4 m4 hqq)
        have HQ2 := Lib.hid hq2
        have HS3 := Lib.hid hS3
        clear h4 m4 hqq hq2 hS3
        go_wp2_with fail
        refine (HC2.out w4 HT4.out.1.d HT4.out.1.le).mono ?_
        rintro e w5 ⟨A4, c4, A5, c5, rfl, hF, hT, h5⟩
        have HT5 := Lib.hid (HT4.out.1.stepD h5)
        have HS5 := Lib.hid (HS3.out.mod h5.2 (fun i e hi => by have := HS2.out i hi; have := (HS3.out.lt e).1; omega))
        have HF := Lib.hid hF
        have HTT := Lib.hid hT
        clear h5 hF hT
        go_wp2_with fail
        go_loopw [12] (fun i wr => ∃ k : Nat, k ≤ n ∧ i = .int .i64 k ∧ Below w5.heap.size w5 wr) (fun i _ => n - (intOf i).toNat)
        case atStart => exact ⟨0, Nat.zero_le _, rfl, Below.refl _ _⟩
        case round =>
          obtain ⟨k, hk, rfl, hb⟩ := hrel
          have HB := Lib.hid hb
          clear hb
          by_cases hlt : k < n
          · have hk1 : k < (refs its).length := by rw [HRL.out]; exact hlt
            have hk2 : k < (refs (keep its)).length := by rw [HRK.out]; exact hlt
            obtain ⟨gm, eM, _, hnc, hrM⟩ := HS5.out.row (by omega)
            obtain ⟨gf, eF, _, hrF⟩ := (HF.out.below HB.out).row (by omega)
            obtain ⟨gt, eT, _, hrT⟩ := (HTT.out.below HB.out).row (by omega)
            subst eM eF eT
            obtain ⟨m1, m2⟩ := mvC_at (refs its) (refs (keep its)) k hk1 hk2
            have hgm := hrM.lt
            have d1 : wr.cell? ⟨gm, k * 2, none⟩ = some (.int .i64 ((refs its)[k] : Nat)) := (HB.out.cell (p := ⟨gm, k * 2, none⟩) hgm).trans (hrM.cell m1)
            have d2 : wr.cell? ⟨gm, k * 2 + 1, none⟩ = some (.int .i64 ((refs (keep its))[k] : Nat)) := (HB.out.cell (p := ⟨gm, k * 2 + 1, none⟩) hgm).trans (hrM.cell m2)
            have d3 : wr.cell? ⟨gf, k, none⟩ = some (.int .i64 ((refs its)[k] : Nat)) := hrF.cell (by unfold IZ NZ; rw [List.getElem?_map, List.getElem?_map, List.getElem?_eq_getElem hk1]; rfl)
            have d4 : wr.cell? ⟨gt, k, none⟩ = some (.int .i64 ((refs (keep its))[k] : Nat)) := hrT.cell (by unfold IZ NZ; rw [List.getElem?_map, List.getElem?_map, List.getElem?_eq_getElem hk2]; rfl)
            generalize (refs its)[k] = x at *
            generalize (refs (keep its))[k] = y at *
            clear hrM hrF hrT m1 m2 hgm hk1 hk2
            go_wp2_with fail
            go_quiet (fail)
            go_wp2
            go_roundw
            case rel => exact ⟨k + 1, by omega, by go_num, belowN HB.out _⟩
            case measure => simp [intOf]; omega
          · go_wp2
            go_ret
            exact ⟨rfl, ⟨_, HSK.out.1, HSK.out.2, by rw [← HQ2.out]; exact (HT5.out.1.below HB.out).two⟩, ((HB2.out.trans HT4.out.2).trans HT5.out.2).trans (HT5.out.1.low HB.out)⟩
      have e3 : (p == 3) = false := by simpa using p3
      have e4 : (p == 4) = false := by simpa using p4
      have e5 : (p == 5) = false := by simpa using p5
      have e6 : (p == 6) = false := by simpa using p6
      have e7 : (p == 7) = false := by simpa using p7
      have HRD := Lib.hid (fun W (hb : Below B w W) => show RdV W s.A (LI s.l) from (HOK.out.rd.below hb).rd (Nat.le_trans HBS.out hb.size))
      have HLT := Lib.hid (show (∀ i, mq q i → i < w2.heap.size) ∧ (∀ i, S i → i < w2.heap.size) ∧ sB < w2.heap.size ∧ B ≤ w2.heap.size from ⟨fun i hi => HT2.out.a.lt hi, fun i hi => (RX.lt HT2.out.d hi).2, HT2.out.bk.lt, HT2.out.le⟩)
      have c2 : w2.cell? ⟨sB, 2, none⟩ = some (.slice s.A s.ln s.lc) := HT2.out.bk.cell 2
      have hk1 : 0 + s.ln ≤ 400000000 := by omega
      have hmx : s.ln ≤ 4000000 := by omega
      have HPM := Lib.hid (sm_put HSM.out lim s.id s.l s.red s.i (by have := HOK.out.tl; omega))
      clear hp0 p3 p4 p5 p6 p7
      go_wp2_with fail
      refine HPW.out.mono ?_
      rintro e w3 ⟨rfl, rfl⟩
      go_upto_region 27 with (at_builtin; refine wpAppC rfl _ _ rfl w2.heap.size none 0 0 [] rfl (App.Own.nil _ _ _) s.A s.ln s.lc s.l rfl HOK.out.tl (HRD.out w2 HB2.out) HOK.out.nil hk1 (Nat.le_refl _) s.ln (by omega) ?_; intro A3 c3 w3 hO3 hm3; have HO3 := Lib.hid hO3; have HM3 := Lib.hid hm3; clear hO3 hm3)
      have HO3 := Lib.hid (show App.Own w3 w2.heap.size 26 A3 s.ln c3 (LI s.l) from HO3.out)
      have hb3 : Below w2.heap.size w2 w3 := HM3.out.below (fun i _ e => by cases e) (Nat.le_refl _)
      have HT3 := Lib.hid (HT2.out.below hb3)
      have HB3 := Lib.hid (HB2.out.trans (HT2.out.low hb3))
      have HS3 := Lib.hid (show w2.heap.size ≤ w3.heap.size from hb3.size)
      clear c2 c0 hb3 HM3
      have c1 : w3.cell? ⟨sB, 1, none⟩ = some (.int .i64 s.id) := HT3.out.bk.cell 1
      have c3' : w3.cell? ⟨sB, 3, none⟩ = some (.bool s.red) := HT3.out.bk.cell 3
      have c6 : w3.cell? ⟨sB, 6, none⟩ = some (.int .i64 s.i) := HT3.out.bk.cell 6
      have HC1 := Lib.hid (put_any HT3.out.a HT3.out.le s.id HOK.out.ib A3 s.ln c3 s.l HOK.out.tl HO3.out.rd (fun h0 b off e hi => by
        obtain ⟨g, e2, hg, _⟩ := HO3.out.row h0
        rw [e2] at e
        injection e with e
        injection e with e
        have := HLT.out.1 b hi
        omega) HOK.out.lb hmx s.red s.i HOK.out.n1)
      unfold PutR at HC1
      have HC2 := Lib.hid (fun W (hd : RX W B S gd lim its) (hB : B ≤ W.heap.size) (hb : Below B w W) => hd.put_any hB s.id HOK.out.ib s.A s.ln s.lc s.l HOK.out.tl HOK.out.nil (HRD.out W hb) HOK.out.lb hmx s.red s.i HOK.out.n1)
      unfold RPutR at HC2
      generalize putM its lim s.id s.l s.red s.i = pm at *
      obtain ⟨pm1, pm2, its2⟩ := pm
      dsimp only at HC1 HC2 HPM
      go_wp2_with fail
      refine HC1.out.mono ?_
      rintro e w4 ⟨rfl, ⟨q2, hq2, h4, hqq⟩, m4⟩
      have HT4 := Lib.hid (HT3.out.stepA h4 m4 hqq)
      have HO4 := Lib.hid (HO3.out.mod m4 (fun i hi e e2 => by have := HLT.out.1 i e2; omega))
      have HS4 := Lib.hid (show w3.heap.size ≤ w4.heap.size from m4.size)
      have HQ2 := Lib.hid hq2
      have HQQ := Lib.hid hqq
      have HB4 := Lib.hid (HB3.out.trans HT4.out.2)
      clear h4 m4 hqq hq2 c1 c3' c6
      have c1 : w4.cell? ⟨sB, 1, none⟩ = some (.int .i64 s.id) := HT4.out.1.bk.cell 1
      have c2 : w4.cell? ⟨sB, 2, none⟩ = some (.slice s.A s.ln s.lc) := HT4.out.1.bk.cell 2
      have c3' : w4.cell? ⟨sB, 3, none⟩ = some (.bool s.red) := HT4.out.1.bk.cell 3
      have c6 : w4.cell? ⟨sB, 6, none⟩ = some (.int .i64 s.i) := HT4.out.1.bk.cell 6
      go_wp2_with fail
      refine (HC2.out w4 HT4.out.1.d HT4.out.1.le HB4.out).mono ?_
      rintro e w5 ⟨rfl, h5⟩
      have HT5 := Lib.hid (HT4.out.1.stepD h5)
      have HO5 := Lib.hid (HO4.out.mod h5.2 (fun i hi e e2 => by have := HLT.out.2.1 i e2; omega))
      have HB5 := Lib.hid (HB4.out.trans HT5.out.2)
      have HNG := Lib.hid (fun g (e : A3 = some ⟨g, 0, none⟩) => show ¬ mq q2 g ∧ ¬ newS S w4 w5 g ∧ sB ≠ g ∧ B ≤ g from by
        have hg1 := Own.base_le HO3.out g e
        have hg2 := Own.lt HO3.out e
        obtain ⟨l1, l2, l3, l4⟩ := HLT.out
        have := HS4.out
        refine ⟨fun hi => ?_, fun hi => ?_, by omega, by omega⟩
        · rcases HQQ.out g hi with hi | hi
          · have := l1 g hi; omega
          · omega
        · rcases hi with hi | hi
          · have := l2 g hi; omega
          · omega)
      clear h5 c1 c2 c3' c6 HC1 HC2 HO3 HO4 HT3 HT4 HB3 HB4 HS3 HS4 HQQ HRD HLT
      generalize newS S w4 w5 = S2 at *
      go_wp2_with fail
      go_loopw [18] (fun i wr => ∃ (k : Nat) (xs : List Int), k ≤ s.ln ∧ i = .int .i64 k ∧ App.Own wr w2.heap.size 26 A3 s.ln c3 (LI xs) ∧ TwS wr B q2 S2 gd lim its2 its2 sB #[.int .i64 s.k, .int .i64 s.id, .slice s.A s.ln s.lc, .bool s.red, .int .i64 s.r, .bool s.loose, .int .i64 s.i, .int .i64 s.j] ∧ Below B w wr) (fun i _ => s.ln - (intOf i).toNat)
      case atStart => exact ⟨0, _, Nat.zero_le _, rfl, HO5.out, HT5.out.1, HB5.out⟩
      case round =>
        clear HT5 HO5 HB5
        obtain ⟨k, xs, hk, rfl, hO, hT, hb⟩ := hrel
        have HO := Lib.hid hO
        have HT := Lib.hid hT
        have HB := Lib.hid hb
        have HXL := Lib.hid (rdC hO)
        clear hO hb hT
        by_cases hlt : k < s.ln
        · obtain ⟨ga, eA, hga, hrow⟩ := HO.out.row (by omega)
          have HNA := Lib.hid (HNG.out ga eA)
          subst eA
          have hkx : k < xs.length := by rw [← HXL.out]; exact hlt
          have ck : wr.cell? ⟨ga, k, none⟩ = some (.int .i32 xs[k]) := hrow.cell (by unfold LI; rw [List.getElem?_map, List.getElem?_eq_getElem hkx]; rfl)
          have fk : wr.frozen? ⟨ga, k, none⟩ = false := hrow.frozen _
          have HSO := Lib.hid (show App.Own (wr.setCell ⟨ga, k, none⟩ (.int .i32 99)) w2.heap.size 26 (some ⟨ga, 0, none⟩) s.ln c3 (LI (xs.set k 99)) from by
            have := HO.out.set_ k hlt (.int .i32 99)
            unfold LI at *
            rwa [List.map_set])
          have HST := Lib.hid (HT.out.other (w' := wr.setCell ⟨ga, k, none⟩ (.int .i32 99)) (g := ga) (Mod.setCell (S := fun i => i = ga) (Mod.refl _ _) (p := ⟨ga, k, none⟩) (.inl rfl) _) HNA.out.2.2.2 HNA.out.1 HNA.out.2.1 HNA.out.2.2.1)
          generalize xs[k] = y at *
          clear hrow hkx
          go_wp2
          go_roundw
          case rel => exact ⟨k + 1, _, by omega, by go_num, HSO.out, HST.out.1, HB.out.trans HST.out.2⟩
          case measure => simp [intOf]; omega
        · go_wp2
          go_ret
          exact ⟨rfl, ⟨its2, HPM.out.1, HPM.out.2, by rw [← HQ2.out]; exact HT.out.two⟩, HB.out⟩
end
end Go.Proofs.Ytenadnmglhghiaa.Ar
