/- The walk of PhaseSaved. -/
import Derived.Test.YtcmicmghnmklnaaPhM
import Derived.Test.YtcmicmghnmklnaaPhG
namespace Go.Proofs.Ytcmicmghnmklnaa.Ph
open Go.RowKit Go.Proofs.Ytcmicmghnmklnaa.Mem Go.Proofs.Ytcmicmghnmklnaa.Sl Go.Shelf Go.Proofs.Ytcmicmghnmklnaa.Ops
set_option linter.unusedVariables false

structure SG (B g sb N : Nat) (st : Bool) (w wr : World) (q : PV) (c : Nat) : Prop where
  ph : Ph wr B g q
  sb : q.sb = sb
  below : Below B w wr
  good : Good N st q.abs c
theorem turn_fixed {N : Nat} {st : Bool} {m : PM} {c : Nat} (h : Good N st m c) (hk : kindN m.turned = 0 ∨ kindN m.turned = 1) (i : Nat) (hi : i < N) : (turnM m).saved.getD i false = (if kindN m.turned = 0 then st else !st) := by
  have := (loop_fixed (kindN m.turned) hk m m.saved.length (Nat.le_refl _)).2 i (by rw [h.len]; exact hi)
  rw [h.start] at this
  exact this
theorem op_ok {B : Nat} {w : World} {b off : Nat} {o : Op3} (h : OkAt B w b off o) (hm : o.n ≤ 4000) : OpOk B w o := ⟨h.k0, h.k1, h.v0, h.v1, h.n, hm, h.rd⟩
theorem decM_saved {m : PM} (h : m.tv = []) (v : Nat) : decM m v = m.saved.getD (v - 1) false := by unfold decM; rw [h]; simp
theorem saveM_tv (m : PM) (l : List Int) : (saveM m l).tv = m.tv := by unfold saveM; split <;> rfl
set_option maxRecDepth 100000 in
set_option maxHeartbeats 8000000 in
theorem saved_walk (n : Int) (st : Bool) (seed : Int) (a : Option Addr) (len cap : Nat) (ops : List Op3) (al : Option Addr) (ll cl : Nat) (l : List Int) (w : World) (hl : ops.length = len) (hm : len ≤ 9223372036854775807) (hn0 : -9223372036854775808 ≤ n) (hn1 : n ≤ 9223372036854775807)
    (hs0 : 0 ≤ seed) (hs1 : seed ≤ 18446744073709551615) (ho : Ops w.heap.size w a ops) (hll : ll = l.length) (hml : ll ≤ 9223372036854775807) (hr : RdB w.heap.size w al (l.map (Value.int .i32))) :
    Calls Try.prog 4 #[.int .i64 n, .bool st, .int .u64 seed, .slice a len cap, .slice al ll cl] w fun e w' => e = .returned (.bool true) ∧ Below w.heap.size w w' := by
  have HL := Lib.hid hl
  have HO := Lib.hid ho
  have HLL := Lib.hid hll
  have HRD := Lib.hid hr
  have HA := Lib.hid (large_any n a len cap ops w hl hm hn0 hn1 ho)
  clear hl ho hll hr
  go_enter Try.func4, Try.ntmps4
  go_wp2_with fail
  refine HA.out.mono ?_
  rintro e w1 ⟨rfl, b, rfl, hb⟩
  have HF := Lib.hid hb
  clear hb
  cases b
  case true =>
    go_wp2_with fail
    refine (works_ok _).mono ?_
    rintro e w2 ⟨rfl, hb2⟩
    have HB2 := Lib.hid hb2
    clear hb2
    go_wp2
    go_ret
    exact ⟨rfl, HB2.out⟩
  case false =>
    have hfit := HF.out rfl
    have HFT := Lib.hid hfit
    by_cases hlong : (1000 : Int) < ll
    · clear hfit
      go_wp2_with fail
      refine (works_ok _).mono ?_
      rintro e w2 ⟨rfl, hb2⟩
      have HB2 := Lib.hid hb2
      clear hb2
      go_wp2
      go_ret
      exact ⟨rfl, HB2.out⟩
    by_cases hbad : n < 0 ∨ 1048576 < n
    · clear hfit
      have HN := Lib.hid (new_bad n st seed w hbad)
      clear hbad
      go_wp2_with fail
      refine HN.out.mono ?_
      rintro e w2 ⟨rfl, rfl⟩
      go_wp2_with fail
      refine (works_ok _).mono ?_
      rintro e w2 ⟨rfl, hb2⟩
      have HB2 := Lib.hid hb2
      clear hb2
      go_wp2
      go_ret
      exact ⟨rfl, HB2.out⟩
    obtain ⟨N, rfl⟩ : ∃ N : Nat, n = N := ⟨n.toNat, by omega⟩
    have hN : N ≤ 100 := by have := hfit.n; omega
    have hlen : len ≤ 120 := by have := hfit.len; have := HL.out; omega
    clear hfit hbad
    have HN := Lib.hid (new_ok N st seed w (by omega) hs0 hs1)
    have HGN := Lib.hid (Good.new N st seed hs0 hs1)
    clear hs0 hs1 hml hm
    go_wp2_with fail
    refine HN.out.mono ?_
    rintro e w2 ⟨g, p, rfl, h2, hm2, hg2, hb2⟩
    have S0 := Lib.hid (show SG w.heap.size g p.sb N st w w2 p 0 from ⟨h2, rfl, hb2, by rw [hm2]; exact HGN.out⟩)
    have HG := Lib.hid hg2
    generalize hsb : p.sb = sb at *
    have HS := Lib.hid h2.bs
    have HG0 := Lib.hid h2.bg
    rw [hsb] at HS
    clear h2 hm2 hg2 hb2 hn0 hn1
    go_wp2_with fail
    go_loopw [13] (fun x wr => ∃ (k : Nat) (q : PV), k ≤ len ∧ x = .int .i64 k ∧ SG w.heap.size g sb N st w wr q k) (fun x _ => len - (intOf x).toNat)
    case atStart => exact ⟨0, p, Nat.zero_le _, rfl, S0.out⟩
    case round =>
      obtain ⟨k, q, hk, rfl, hst⟩ := hrel
      have ST := Lib.hid hst
      clear hst S0
      by_cases hlt : k < len
      · have hkl : k < ops.length := by rw [HL.out]; exact hlt
        obtain ⟨b, off, rfl, hb, hc⟩ := (HO.out.below ST.out.below) (by omega)
        have hok := hc k _ (List.getElem?_eq_getElem hkl)
        have h4 := HFT.out.each k _ (List.getElem?_eq_getElem hkl)
        generalize ops[k] = o at *
        have c0 := hok.k
        have c1 := hok.v
        have c2 := hok.s
        have hgs : g ≠ q.sb := by rw [ST.out.sb]; exact HG.out
        have D5 := Lib.hid (does_ok ST.out.ph ST.out.below.size (Nat.le_refl _) hgs (by have := ST.out.good.tu; have : q.abs.turned = q.turned := rfl; omega) o (op_ok hok h4))
        have HGD := Lib.hid (ST.out.good.does o)
        unfold opV at D5
        clear hok hc hkl hb h4
        go_wp2_with fail
        refine D5.out.mono ?_
        rintro e w3 ⟨q', rfl, h3, hm3, hs3, hd3⟩
        have ST3 := Lib.hid (show SG w.heap.size g sb N st w w3 q' (k + 1) from ⟨h3, hs3.trans ST.out.sb, ST.out.below.trans (hd3.below (fun i _ e => by
          rcases e with rfl | rfl
          · exact HG0.out
          · rw [ST.out.sb]; exact HS.out) ST.out.below.size), by rw [hm3]; exact HGD.out.1⟩)
        have hpos := HGD.out.2
        generalize (doesM q.abs o).2 = d at *
        have hd : ((d : Int) == 0) = false := by simpa using (by omega : (d : Int) ≠ 0)
        clear h3 hm3 hs3 hd3 c0 c1 c2 hpos hgs
        go_wp2
        go_roundw
        case rel => exact ⟨k + 1, _, by omega, by go_num, ST3.out⟩
        case measure => simp [intOf]; omega
      · have hgs : g ≠ q.sb := by rw [ST.out.sb]; exact HG.out
        have hqt : q.turned ≤ 4611686018427387904 := by have := ST.out.good.tu; have : q.abs.turned = q.turned := rfl; omega
        have T5 := Lib.hid (turn_ok ST.out.ph ST.out.below.size hgs hqt)
        have HKC := Lib.hid (kindN_cases q.turned ST.out.ph.tu0)
        have HFX := Lib.hid (fun hk i hi => turn_fixed (i := i) ST.out.good hk hi)
        rw [show q.abs.turned = q.turned from rfl] at HFX
        have HGT := Lib.hid ST.out.good.turn
        generalize kindN q.turned = kk at *
        clear hgs hqt
        go_wp2_with fail
        refine T5.out.mono ?_
        rintro e w3 ⟨q3, rfl, h3, hm3, hs3, hd3⟩
        have hbb := hd3.below (B := w.heap.size) (fun i _ e => by
          rcases e with rfl | rfl
          · exact HG0.out
          · rw [ST.out.sb]; exact HS.out) ST.out.below.size
        have hq3 : q3.saved.length = N := by
          have := (congrArg PM.saved hm3)
          rw [show q3.saved = (turnM q.abs).saved from this]
          exact HGT.out.len
        have HQ3 := Lib.hid hq3
        have HTV := Lib.hid (show q3.tv = [] from congrArg PM.tv hm3)
        have HFX3 := Lib.hid (show (kk = 0 ∨ kk = 1) → ∀ i, i < N → q3.saved.getD i false = (if kk = 0 then st else !st) from fun hk i hi => by
          rw [show q3.saved = (turnM q.abs).saved from congrArg PM.saved hm3]
          exact HFX.out hk i hi)
        have HSV := Lib.hid (saved_ok h3)
        rw [hq3] at HSV
        have S3 := Lib.hid (show SG w.heap.size g sb N st w w3 q3 (len + 1) from ⟨h3, hs3.trans ST.out.sb, ST.out.below.trans hbb, by
          rw [hm3]; have := HGT.out; exact ⟨this.len, this.start, this.pos, this.top, by have := this.tu; omega⟩⟩)
        have HSL := Lib.hid h3.row.lt
        clear h3 hm3 hs3 hd3 hbb hq3 HFX
        go_wp2_with fail
        refine HSV.out.mono ?_
        rintro e w4 ⟨g2, cap2, rfl, hg2, hrow, hb4⟩
        have S4 := Lib.hid (show SG w.heap.size g sb N st w w4 q3 (len + 1) from ⟨S3.out.ph.below hb4, S3.out.sb, below_then S3.out.below hb4 S3.out.below.size, S3.out.good⟩)
        have R4 := Lib.hid hrow
        have HG2 := Lib.hid (show ¬ g2 = q3.sb from fun e => by have := HSL.out; omega)
        clear hg2 hrow hb4
        go_wp2_with fail
        go_loopw [17] (fun x wr => ∃ i : Nat, i ≤ N ∧ x = .int .i64 i ∧ wr = w4) (fun x _ => N - (intOf x).toNat)
        case atStart => exact ⟨0, Nat.zero_le _, rfl, rfl⟩
        case round =>
          obtain ⟨i, hi, rfl, rfl⟩ := hrel
          by_cases hiN : i < N
          · have cw : wr.cell? ⟨g2, i, none⟩ = some (.bool (q3.saved.getD i false)) := R4.out.cell (bools_at (by rw [HQ3.out]; exact hiN))
            rcases HKC.out with rfl | rfl | rfl | rfl | rfl
            · rw [HFX3.out (.inl rfl) i hiN, if_pos rfl] at cw
              cases st <;> (go_wp2; go_roundw; (case rel => exact ⟨i + 1, by omega, by go_num, trivial⟩); (case measure => simp [intOf]; omega))
            · rw [HFX3.out (.inr rfl) i hiN, if_neg (by decide)] at cw
              cases st <;> (simp only [Bool.not_true, Bool.not_false] at cw; go_wp2; go_roundw; (case rel => exact ⟨i + 1, by omega, by go_num, trivial⟩); (case measure => simp [intOf]; omega))
            all_goals (go_wp2; go_roundw; (case rel => exact ⟨i + 1, by omega, by go_num, trivial⟩); (case measure => simp [intOf]; omega))
          · go_wp2_with fail
            have HMS := Lib.hid (save_any S4.out.ph al cl l ll HLL.out (by omega) ((HRD.out.below S4.out.below).rd S4.out.below.size) (fun hp b off e1 e2 => by
              obtain ⟨b', off', e3, h3, _⟩ := HRD.out (by simpa using hp)
              rw [e1] at e3
              cases e3
              have := HS.out
              rw [S4.out.sb] at e2
              omega))
            rw [HQ3.out] at HMS
            have HS4 := Lib.hid (show Mem.Mod (fun i => i = q3.sb) wr wr from Mod.refl _ _)
            by_cases hmay : mayB N l = true
            · have HDV0 := Lib.hid (show ∀ q5 : PV, q5.abs = saveM q3.abs l → ∀ v, 1 ≤ v → v ≤ N → decV q5 v = wantB v (q3.saved.getD (v - 1) false) l l.length from fun q5 h5 v hv0 hv1 => by
                rw [decV_abs, decM_saved (by rw [h5, saveM_tv]; exact HTV.out), h5]
                have : (saveM q3.abs l).saved = l.foldl putS q3.saved := by unfold saveM; rw [show q3.abs.saved = q3.saved from rfl, HQ3.out, hmay]; rfl
                rw [this]
                have h6 := wantB_saved (fits_of_may hmay) HQ3.out hv0 hv1 l.length (Nat.le_refl _)
                rw [List.take_length] at h6
                exact h6)
              rw [hmay, show noE true = 0 from rfl] at HMS
              clear hmay
              refine HMS.out.mono ?_
              rintro e w5 ⟨q5, rfl, h5, hm5, hs5, hd5⟩
              have HDV := Lib.hid (HDV0.out q5 hm5)
              have S5 := Lib.hid (show SG w.heap.size g sb N st w w5 q5 (len + 1) from ⟨h5, hs5.trans S4.out.sb, S4.out.below.trans (hd5.below (fun i _ e => by rw [e, S4.out.sb]; exact HS.out) S4.out.below.size), by rw [hm5]; exact S4.out.good.save l⟩)
              have R5 := Lib.hid (R4.out.mod hd5 HG2.out)
              clear h5 hm5 hs5 hd5
              go_wp2_with fail
              go_loopw [19] (fun x wr => ∃ v : Nat, 1 ≤ v ∧ v ≤ N + 1 ∧ x = .int .i64 v ∧ SG w.heap.size g sb N st w wr q5 (len + 1) ∧ Row wr g2 4 (q3.saved.map Value.bool) cap2) (fun x _ => N + 1 - (intOf x).toNat)
              case atStart => exact ⟨1, by omega, by omega, rfl, S5.out, R5.out⟩
              case round =>
                obtain ⟨v, hv0, hv1, rfl, hst, hrow⟩ := hrel
                have TT := Lib.hid hst
                have RW := Lib.hid hrow
                by_cases hvN : v ≤ N
                · have e1 : IntKind.i32.wrap (v : Int) = v := IntWalk.i32_in _ (by omega)
                  have e2 : IntKind.i32.wrap (-(v : Int)) = -v := IntWalk.i32_in _ (by omega)
                  have cw : wr.cell? ⟨g2, v - 1, none⟩ = some (.bool (q3.saved.getD (v - 1) false)) := hrow.cell (bools_at (by rw [HQ3.out]; omega))
                  have DD := Lib.hid (decide_ok TT.out.ph v hv0 (by rw [show q5.saved.length = N from TT.out.good.len]; exact hvN))
                  clear hst hrow
                  go_wp2_with fail
                  go_loopw [20, 21] (fun x i wr3 => ∃ j : Nat, j ≤ ll ∧ i = .int .i64 j ∧ x = .bool (wantB v (q3.saved.getD (v - 1) false) l j) ∧ wr3 = wr) (fun _ i _ => ll - (intOf i).toNat)
                  case atStart => exact ⟨0, Nat.zero_le _, rfl, rfl, rfl⟩
                  case round =>
                    obtain ⟨j, hj, rfl, rfl, rfl⟩ := hrel
                    by_cases hjn : j < ll
                    · have hjl : j < l.length := by have := HLL.out; omega
                      obtain ⟨b2, off2, hA, hb2, hc2⟩ := RdV.at_ ((HRD.out.below TT.out.below).rd TT.out.below.size) (ints_at (k := .i32) hjl)
                      subst hA
                      have HW := Lib.hid (wantB_succ v (q3.saved.getD (v - 1) false) l j hjl)
                      generalize l.getD j 0 = x at *
                      generalize wantB v (q3.saved.getD (v - 1) false) l j = wt at *
                      by_cases hx1 : x = v
                      · have t1 : (x == (v : Int)) = true := by simpa using hx1
                        have HX := Lib.hid (show wantS v wt x = decide (0 < x) by unfold wantS; rw [if_pos (.inl hx1)])
                        clear hx1 hjl
                        go_wp2
                        go_roundw
                        case rel => exact ⟨j + 1, by omega, by go_num, by rw [HW.out, HX.out], trivial⟩
                        case measure => simp [intOf]; omega
                      · have t1 : (x == (v : Int)) = false := by simpa using hx1
                        by_cases hx2 : x = -(v : Int)
                        · have t2 : (x == -(v : Int)) = true := by simpa using hx2
                          have HX := Lib.hid (show wantS v wt x = decide (0 < x) by unfold wantS; rw [if_pos (.inr hx2)])
                          clear hx1 hx2 hjl
                          go_wp2
                          go_roundw
                          case rel => exact ⟨j + 1, by omega, by go_num, by rw [HW.out, HX.out], trivial⟩
                          case measure => simp [intOf]; omega
                        · have t2 : (x == -(v : Int)) = false := by simpa using hx2
                          have HX := Lib.hid (show wantS v wt x = wt by unfold wantS; rw [if_neg (by omega)])
                          clear hx1 hx2 hjl
                          go_wp2
                          go_roundw
                          case rel => exact ⟨j + 1, by omega, by go_num, by rw [HW.out, HX.out], trivial⟩
                          case measure => simp [intOf]; omega
                    · have hjl : j = l.length := by have := HLL.out; omega
                      have HW := Lib.hid (show decV q5 v = wantB v (q3.saved.getD (v - 1) false) l j by rw [HDV.out v hv0 hvN, hjl])
                      rw [HW.out] at DD
                      generalize wantB v (q3.saved.getD (v - 1) false) l j = wt at *
                      clear hjl e1 e2
                      go_wp2_with fail
                      refine DD.out.mono ?_
                      rintro e w6 ⟨rfl, hb6⟩
                      have TT6 := Lib.hid (show SG w.heap.size g sb N st w w6 q5 (len + 1) from ⟨TT.out.ph.below hb6, TT.out.sb, below_then TT.out.below hb6 TT.out.below.size, TT.out.good⟩)
                      have RW6 := Lib.hid (RW.out.below hb6)
                      clear hb6
                      cases wt
                      · go_wp2
                        go_roundw
                        case rel => exact ⟨v + 1, by omega, by omega, by go_num, TT6.out, RW6.out⟩
                        case measure => simp [intOf]; omega
                      · go_wp2
                        go_roundw
                        case rel => exact ⟨v + 1, by omega, by omega, by go_num, TT6.out, RW6.out⟩
                        case measure => simp [intOf]; omega
                · clear hst hrow
                  go_wp2_with fail
                  refine (works_ok _).mono ?_
                  rintro e w6 ⟨rfl, hb6⟩
                  have HB6 := Lib.hid (below_then TT.out.below hb6 TT.out.below.size)
                  clear hb6
                  go_wp2
                  go_ret
                  exact ⟨rfl, HB6.out⟩
            · have hmf : mayB N l = false := by simpa using hmay
              have HDV0 := Lib.hid (show ∀ q5 : PV, q5.abs = saveM q3.abs l → ∀ v, 1 ≤ v → v ≤ N → decV q5 v = q3.saved.getD (v - 1) false from fun q5 h5 v hv0 hv1 => by
                rw [decV_abs, decM_saved (by rw [h5, saveM_tv]; exact HTV.out), h5]
                have : (saveM q3.abs l).saved = q3.saved := by unfold saveM; rw [show q3.abs.saved = q3.saved from rfl, HQ3.out, hmf]; rfl
                rw [this])
              rw [hmf, show noE false = 2 from rfl] at HMS
              clear hmay hmf
              refine HMS.out.mono ?_
              rintro e w5 ⟨q5, rfl, h5, hm5, hs5, hd5⟩
              have HDV := Lib.hid (HDV0.out q5 hm5)
              have S5 := Lib.hid (show SG w.heap.size g sb N st w w5 q5 (len + 1) from ⟨h5, hs5.trans S4.out.sb, S4.out.below.trans (hd5.below (fun i _ e => by rw [e, S4.out.sb]; exact HS.out) S4.out.below.size), by rw [hm5]; exact S4.out.good.save l⟩)
              have R5 := Lib.hid (R4.out.mod hd5 HG2.out)
              clear h5 hm5 hs5 hd5
              go_wp2_with fail
              go_loopw [19] (fun x wr => ∃ v : Nat, 1 ≤ v ∧ v ≤ N + 1 ∧ x = .int .i64 v ∧ SG w.heap.size g sb N st w wr q5 (len + 1) ∧ Row wr g2 4 (q3.saved.map Value.bool) cap2) (fun x _ => N + 1 - (intOf x).toNat)
              case atStart => exact ⟨1, by omega, by omega, rfl, S5.out, R5.out⟩
              case round =>
                obtain ⟨v, hv0, hv1, rfl, hst, hrow⟩ := hrel
                have TT := Lib.hid hst
                have RW := Lib.hid hrow
                by_cases hvN : v ≤ N
                · have e1 : IntKind.i32.wrap (v : Int) = v := IntWalk.i32_in _ (by omega)
                  have e2 : IntKind.i32.wrap (-(v : Int)) = -v := IntWalk.i32_in _ (by omega)
                  have cw : wr.cell? ⟨g2, v - 1, none⟩ = some (.bool (q3.saved.getD (v - 1) false)) := hrow.cell (bools_at (by rw [HQ3.out]; omega))
                  have DD := Lib.hid (decide_ok TT.out.ph v hv0 (by rw [show q5.saved.length = N from TT.out.good.len]; exact hvN))
                  clear hst hrow
                  go_wp2_with fail
                  go_loopw [20, 21] (fun x i wr3 => i = .int .i64 0 ∧ x = .bool (q3.saved.getD (v - 1) false) ∧ wr3 = wr) (fun _ _ _ => 0)
                  case atStart => exact ⟨rfl, rfl, rfl⟩
                  case round =>
                    obtain ⟨rfl, rfl, rfl⟩ := hrel
                    have HW := Lib.hid (show decV q5 v = q3.saved.getD (v - 1) false from HDV.out v hv0 hvN)
                    rw [HW.out] at DD
                    generalize q3.saved.getD (v - 1) false = wt at *
                    clear e1 e2
                    by_cases hz : (0 : Int) < ll
                    · go_wp2_with fail
                      refine DD.out.mono ?_
                      rintro e w6 ⟨rfl, hb6⟩
                      have TT6 := Lib.hid (show SG w.heap.size g sb N st w w6 q5 (len + 1) from ⟨TT.out.ph.below hb6, TT.out.sb, below_then TT.out.below hb6 TT.out.below.size, TT.out.good⟩)
                      have RW6 := Lib.hid (RW.out.below hb6)
                      clear hb6
                      cases wt
                      · go_wp2
                        go_roundw
                        case rel => exact ⟨v + 1, by omega, by omega, by go_num, TT6.out, RW6.out⟩
                        case measure => simp [intOf]; omega
                      · go_wp2
                        go_roundw
                        case rel => exact ⟨v + 1, by omega, by omega, by go_num, TT6.out, RW6.out⟩
                        case measure => simp [intOf]; omega
                    · go_wp2_with fail
                      refine DD.out.mono ?_
                      rintro e w6 ⟨rfl, hb6⟩
                      have TT6 := Lib.hid (show SG w.heap.size g sb N st w w6 q5 (len + 1) from ⟨TT.out.ph.below hb6, TT.out.sb, below_then TT.out.below hb6 TT.out.below.size, TT.out.good⟩)
                      have RW6 := Lib.hid (RW.out.below hb6)
                      clear hb6
                      cases wt
                      · go_wp2
                        go_roundw
                        case rel => exact ⟨v + 1, by omega, by omega, by go_num, TT6.out, RW6.out⟩
                        case measure => simp [intOf]; omega
                      · go_wp2
                        go_roundw
                        case rel => exact ⟨v + 1, by omega, by omega, by go_num, TT6.out, RW6.out⟩
                        case measure => simp [intOf]; omega
                · clear hst hrow
                  go_wp2_with fail
                  refine (works_ok _).mono ?_
                  rintro e w6 ⟨rfl, hb6⟩
                  have HB6 := Lib.hid (below_then TT.out.below hb6 TT.out.below.size)
                  clear hb6
                  go_wp2
                  go_ret
                  exact ⟨rfl, HB6.out⟩
end Go.Proofs.Ytcmicmghnmklnaa.Ph
