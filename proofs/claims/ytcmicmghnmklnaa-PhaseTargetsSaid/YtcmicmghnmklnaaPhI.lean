/- The walk of PhaseTargets. -/
import Derived.Test.YtcmicmghnmklnaaPhH
namespace Go.Proofs.Ytcmicmghnmklnaa.Ph
open Go.RowKit Go.Proofs.Ytcmicmghnmklnaa.Mem Go.Proofs.Ytcmicmghnmklnaa.Sl Go.Shelf Go.Proofs.Ytcmicmghnmklnaa.Ops
set_option linter.unusedVariables false

/-- What stands at a round of the first loop. -/
structure St (B g sb N : Nat) (w : World) (wr : World) (A : Option Addr) (n c : Nat) (l : List Int) (p : PV) : Prop where
  ph : Ph wr B g p
  sb : p.sb = sb
  below : Below B w wr
  tg : Tg N p.abs l
  hn : n = l.length
  hm : n ≤ 4000
  rd : RdB B wr A (l.map (Value.int .i32))
set_option maxRecDepth 100000 in
theorem targets_walk (n : Int) (a : Option Addr) (len cap : Nat) (ops : List Op3) (w : World) (hl : ops.length = len) (hm : len ≤ 9223372036854775807) (hn0 : -9223372036854775808 ≤ n) (hn1 : n ≤ 9223372036854775807) (ho : Ops w.heap.size w a ops) :
    Calls Try.prog 3 #[.int .i64 n, .slice a len cap] w fun e w' => e = .returned (.bool true) ∧ Below w.heap.size w w' := by
  have HL := Lib.hid hl
  have HO := Lib.hid ho
  have HA := Lib.hid (large_any n a len cap ops w hl hm hn0 hn1 ho)
  clear hl ho
  go_enter Try.func3, Try.ntmps3
  go_wp2_with fail
  refine HA.out.mono ?_
  rintro e w1 ⟨rfl, b, rfl, hb⟩
  have HF := Lib.hid hb
  clear hb
  cases b
  case true =>
    go_wp2_with fail
    refine (works_ok _).mono ?_
    rintro e w2 ⟨rfl, hb2⟩
    have HB2 := Lib.hid hb2
    clear hb2
    go_wp2
    go_ret
    exact ⟨rfl, HB2.out⟩
  case false =>
    have hfit := HF.out rfl
    have HFT := Lib.hid hfit
    by_cases hbad : n < 0 ∨ 1048576 < n
    · clear hfit
      have HN := Lib.hid (new_bad n false 1 w hbad)
      clear hbad
      go_wp2_with fail
      refine HN.out.mono ?_
      rintro e w2 ⟨rfl, rfl⟩
      go_wp2_with fail
      refine (works_ok _).mono ?_
      rintro e w2 ⟨rfl, hb2⟩
      have HB2 := Lib.hid hb2
      clear hb2
      go_wp2
      go_ret
      exact ⟨rfl, HB2.out⟩
    · obtain ⟨N, rfl⟩ : ∃ N : Nat, n = N := ⟨n.toNat, by omega⟩
      have hN : N ≤ 100 := by have := hfit.n; omega
      have hlen : len ≤ 120 := by have := hfit.len; have := HL.out; omega
      clear hfit hbad
      have HN := Lib.hid (new_ok N false 1 w (by omega) (by omega) (by omega))
      go_wp2_with fail
      refine HN.out.mono ?_
      rintro e w2 ⟨g, p, rfl, h2, hm2, hg2, hb2⟩
      have S0 := Lib.hid (show St w.heap.size g p.sb N w w2 none 0 0 [] p from ⟨h2, rfl, hb2, by rw [hm2]; exact Tg.new N 1, rfl, Nat.zero_le _, fun hp => absurd hp (by simp)⟩)
      have HG := Lib.hid hg2
      generalize hsb : p.sb = sb at *
      have HS := Lib.hid h2.bs
      have HG0 := Lib.hid h2.bg
      rw [hsb] at HS
      clear h2 hm2 hg2 hb2
      go_wp2_with fail
      go_loopw [7, 8] (fun x i wr => ∃ (k : Nat) (A : Option Addr) (bn bc : Nat) (l : List Int) (q : PV), k ≤ len ∧ i = .int .i64 k ∧ x = .slice A bn bc ∧ St w.heap.size g sb N w wr A bn bc l q) (fun _ i _ => len - (intOf i).toNat)
      case atStart => exact ⟨0, none, 0, 0, [], p, Nat.zero_le _, rfl, rfl, S0.out⟩
      case round =>
        obtain ⟨k, A, bn, bc, l, q, hk, rfl, rfl, hst⟩ := hrel
        have ST := Lib.hid hst
        clear hst S0
        by_cases hlt : k < len
        · have hkl : k < ops.length := by rw [HL.out]; exact hlt
          obtain ⟨b, off, rfl, hb, hc⟩ := (HO.out.below ST.out.below) (by omega)
          have hok := hc k _ (List.getElem?_eq_getElem hkl)
          have h4 := HFT.out.each k _ (List.getElem?_eq_getElem hkl)
          generalize ops[k] = o at *
          have c2 := hok.s
          have HB := Lib.hid hb
          have HK := Lib.hid hok
          have R5 := Lib.hid (reach_any ST.out.ph ST.out.below.size o.A o.c o.l o.n hok.n (by omega) (hok.rd.rd ST.out.below.size) (fun hp b off e h => by
            obtain ⟨b', off', e', h', _⟩ := hok.rd (by simpa using hp)
            rw [e] at e'
            cases e'
            have := HG0.out
            omega))
          clear hok hc hkl hb
          have hqs : q.saved.length = N := by
            have := ST.out.tg.saved
            rw [show q.saved = List.replicate N false from this, List.length_replicate]
          have hqt : q.tn = l.length := ST.out.tg.tn
          rw [hqs, hqt] at R5
          clear hqs hqt
          have hnl := ST.out.hn
          have hol := HK.out.n
          by_cases hmay : mayB N o.l = true
          · by_cases hlg : (l.length : Int) < o.l.length
            · have hw1 : (bn : Int) < o.n := by omega
              rw [hmay, decide_eq_true hlg] at R5
              simp only [Bool.and_self, Bool.true_and, show noE true = 0 from rfl] at R5
              have HTG := Lib.hid (Tg.long ST.out.tg hmay hlg)
              clear hmay hlg hnl hol
              go_wp2_with fail
              refine R5.out.mono ?_
              rintro e w3 ⟨q', rfl, h3, hm3, hs3, hd3⟩
              have HD := Lib.hid (hd3.below (B := w.heap.size) (fun i _ e => by rw [e]; exact HG0.out) ST.out.below.size)
              have c3 : w3.cell? ⟨b, off + k * 3 + 2, none⟩ = some (.slice o.A o.n o.c) := (HD.out.cell (p := ⟨b, off + k * 3 + 2, none⟩) HB.out).trans c2
              have ST3 := Lib.hid (show St w.heap.size g sb N w w3 o.A o.n o.c o.l q' from ⟨h3, hs3.trans ST.out.sb, ST.out.below.trans HD.out, by rw [hm3]; exact HTG.out, HK.out.n, h4, HK.out.rd.below HD.out⟩)
              clear h3 hm3 hs3 hd3 c2
              go_wp2
              go_roundw
              case rel => exact ⟨k + 1, _, _, _, _, _, by omega, by go_num, rfl, ST3.out⟩
              case measure => simp [intOf]; omega
            · have hw1 : ¬ (bn : Int) < o.n := by omega
              rw [hmay, decide_eq_false hlg] at R5
              simp only [Bool.and_false, Bool.true_and, show noE true = 0 from rfl] at R5
              have HTG := Lib.hid (Tg.short ST.out.tg hlg)
              clear hmay hlg hnl hol
              go_wp2_with fail
              refine R5.out.mono ?_
              rintro e w3 ⟨q', rfl, h3, hm3, hs3, hd3⟩
              have HD := Lib.hid (hd3.below (B := w.heap.size) (fun i _ e => by rw [e]; exact HG0.out) ST.out.below.size)
              have c3 : w3.cell? ⟨b, off + k * 3 + 2, none⟩ = some (.slice o.A o.n o.c) := (HD.out.cell (p := ⟨b, off + k * 3 + 2, none⟩) HB.out).trans c2
              have ST3 := Lib.hid (show St w.heap.size g sb N w w3 A bn bc l q' from ⟨h3, hs3.trans ST.out.sb, ST.out.below.trans HD.out, by rw [hm3]; exact HTG.out, ST.out.hn, ST.out.hm, ST.out.rd.below HD.out⟩)
              clear h3 hm3 hs3 hd3 c2
              go_wp2
              go_roundw
              case rel => exact ⟨k + 1, _, _, _, _, _, by omega, by go_num, rfl, ST3.out⟩
              case measure => simp [intOf]; omega
          · have hmf : mayB N o.l = false := by simpa using hmay
            rw [hmf] at R5
            simp only [Bool.false_and, show noE false = 2 from rfl] at R5
            have HTG := Lib.hid (Tg.no ST.out.tg hmf)
            clear hmay hmf hnl hol
            go_wp2_with fail
            refine R5.out.mono ?_
            rintro e w3 ⟨q', rfl, h3, hm3, hs3, hd3⟩
            have HD := Lib.hid (hd3.below (B := w.heap.size) (fun i _ e => by rw [e]; exact HG0.out) ST.out.below.size)
            have ST3 := Lib.hid (show St w.heap.size g sb N w w3 A bn bc l q' from ⟨h3, hs3.trans ST.out.sb, ST.out.below.trans HD.out, by rw [hm3]; exact HTG.out, ST.out.hn, ST.out.hm, ST.out.rd.below HD.out⟩)
            clear h3 hm3 hs3 hd3 c2
            go_wp2
            go_roundw
            case rel => exact ⟨k + 1, _, _, _, _, _, by omega, by go_num, rfl, ST3.out⟩
            case measure => simp [intOf]; omega
        · go_wp2_with fail
          clear hlt
          go_loopw [12] (fun x wr2 => ∃ v : Nat, 1 ≤ v ∧ v ≤ N + 1 ∧ x = .int .i64 v ∧ St w.heap.size g sb N w wr2 A bn bc l q) (fun x _ => N + 1 - (intOf x).toNat)
          case atStart => exact ⟨1, by omega, by omega, rfl, ST.out⟩
          case round =>
            obtain ⟨v, hv0, hv1, rfl, hst⟩ := hrel
            have TT := Lib.hid hst
            clear hst
            clear ST
            by_cases hvN : v ≤ N
            · have e1 : IntKind.i32.wrap (v : Int) = v := IntWalk.i32_in _ (by omega)
              have e2 : IntKind.i32.wrap (-(v : Int)) = -v := IntWalk.i32_in _ (by omega)
              go_wp2_with fail
              go_loopw [13, 14] (fun x i wr3 => ∃ j : Nat, j ≤ bn ∧ i = .int .i64 j ∧ x = .bool (want v l j) ∧ wr3 = wr) (fun _ i _ => bn - (intOf i).toNat)
              case atStart => exact ⟨0, Nat.zero_le _, rfl, rfl, rfl⟩
              case round =>
                obtain ⟨j, hj, rfl, rfl, rfl⟩ := hrel
                by_cases hjn : j < bn
                · have hjl : j < l.length := by have := TT.out.hn; omega
                  have hbn := TT.out.hm
                  obtain ⟨b2, off2, hA, hb2, hc2⟩ := RdV.at_ (TT.out.rd.rd TT.out.below.size) (ints_at (k := .i32) hjl)
                  subst hA
                  have HW := Lib.hid (want_succ v l j hjl)
                  generalize l.getD j 0 = x at *
                  generalize want v l j = wt at *
                  by_cases hx1 : x = v
                  · have t1 : (x == (v : Int)) = true := by simpa using hx1
                    have HX := Lib.hid (show wantS v wt x = decide (0 < x) by unfold wantS; rw [if_pos (.inl hx1)])
                    clear hx1 hjl
                    go_wp2
                    go_roundw
                    case rel => exact ⟨j + 1, by omega, by go_num, by rw [HW.out, HX.out], trivial⟩
                    case measure => simp [intOf]; omega
                  · have t1 : (x == (v : Int)) = false := by simpa using hx1
                    by_cases hx2 : x = -(v : Int)
                    · have t2 : (x == -(v : Int)) = true := by simpa using hx2
                      have HX := Lib.hid (show wantS v wt x = decide (0 < x) by unfold wantS; rw [if_pos (.inr hx2)])
                      clear hx1 hx2 hjl
                      go_wp2
                      go_roundw
                      case rel => exact ⟨j + 1, by omega, by go_num, by rw [HW.out, HX.out], trivial⟩
                      case measure => simp [intOf]; omega
                    · have t2 : (x == -(v : Int)) = false := by simpa using hx2
                      have HX := Lib.hid (show wantS v wt x = wt by unfold wantS; rw [if_neg (by omega)])
                      clear hx1 hx2 hjl
                      go_wp2
                      go_roundw
                      case rel => exact ⟨j + 1, by omega, by go_num, by rw [HW.out, HX.out], trivial⟩
                      case measure => simp [intOf]; omega
                · have hjl : j = l.length := by have := TT.out.hn; omega
                  have hqs : q.saved.length = N := by
                    have := TT.out.tg.saved
                    rw [show q.saved = List.replicate N false from this, List.length_replicate]
                  have DD := Lib.hid (decide_ok TT.out.ph v hv0 (by omega))
                  rw [decV_abs, TT.out.tg.dec hv0 hvN, ← hjl] at DD
                  generalize want v l j = wt at *
                  clear hjl hqs e1 e2
                  go_wp2_with fail
                  refine DD.out.mono ?_
                  rintro e w4 ⟨rfl, hb4⟩
                  have TT4 := Lib.hid (show St w.heap.size g sb N w w4 A bn bc l q from
                    ⟨TT.out.ph.below hb4, TT.out.sb, below_then TT.out.below hb4 TT.out.below.size, TT.out.tg, TT.out.hn, TT.out.hm, TT.out.rd.below (hb4.mono TT.out.below.size)⟩)
                  clear hb4
                  cases wt
                  · go_wp2
                    go_roundw
                    case rel => exact ⟨v + 1, by omega, by omega, by go_num, TT4.out⟩
                    case measure => simp [intOf]; omega
                  · go_wp2
                    go_roundw
                    case rel => exact ⟨v + 1, by omega, by omega, by go_num, TT4.out⟩
                    case measure => simp [intOf]; omega
            · go_wp2_with fail
              refine (works_ok _).mono ?_
              rintro e w4 ⟨rfl, hb4⟩
              have HB4 := Lib.hid (below_then TT.out.below hb4 TT.out.below.size)
              clear hb4
              go_wp2
              go_ret
              exact ⟨rfl, HB4.out⟩
end Go.Proofs.Ytcmicmghnmklnaa.Ph
