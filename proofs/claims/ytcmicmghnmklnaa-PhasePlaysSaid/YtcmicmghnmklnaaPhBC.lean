/- The walk of PhasePlays. No condition but the memory, and what calls are (Ops2). -/
import Derived.Test.YtcmicmghnmklnaaPhBB
import Derived.Test.YtcmicmghnmklnaaPhM
import Derived.Test.YtcmicmghnmklnaaPhG
namespace Go.Proofs.Ytcmicmghnmklnaa.Ph
open Go.RowKit Go.Proofs.Ytcmicmghnmklnaa.Mem Go.Proofs.Ytcmicmghnmklnaa.Sl Go.Shelf Go.Proofs.Ytcmicmghnmklnaa.Ops
set_option linter.unusedVariables false

/-- A store and the document's, side by side. -/
structure SP (w : World) (B g h : Nat) (p : PV) (r : RV) : Prop where
  ph : Ph w B g p
  rf : Rf w B h p.abs r
  dis : Dis p r
def Bk (g h : Nat) (p : PV) (r : RV) (i : Nat) : Prop := Two g p.sb i ∨ RS h r.vA i
section
variable {w w' : World} {B g h g2 h2 : Nat} {p p2 : PV} {r r2 : RV}
theorem SP.below (s : SP w B g h p r) (hb : Below w.heap.size w w') : SP w' B g h p r := ⟨s.ph.below hb, s.rf.below hb, s.dis⟩
theorem SP.typ (s : SP w B g h p r) {i : Nat} (hi : Bk g h p r i) : ∃ t cs, Blk w i t cs ∧ (t = 62 ∨ t = 4 ∨ t = 78) := by
  rcases hi with (rfl | rfl) | (rfl | e)
  · exact ⟨_, _, s.ph.blk, .inl rfl⟩
  · obtain ⟨cs, hb⟩ := sb_blk s.ph; exact ⟨_, cs, hb, .inr (.inl rfl)⟩
  · exact ⟨_, _, s.rf.blk, .inr (.inr rfl)⟩
  · obtain ⟨cs, hb⟩ := val_blk s.rf e; exact ⟨_, cs, hb, .inr (.inl rfl)⟩
theorem SP.other (s : SP w B g h p r) (s2 : SP w B g2 h2 p2 r2) (ha : ∀ i, Bk g h p r i → ¬ Bk g2 h2 p2 r2 i) (hm : Mod (Bk g h p r) w w') : SP w' B g2 h2 p2 r2 := by
  have hn : ∀ i t cs, Blk w i t cs → (t ≠ 62 ∧ t ≠ 4 ∧ t ≠ 78) → ¬ Bk g h p r i := fun i t cs hb ht hi => by
    obtain ⟨t', cs', hb', e⟩ := s.typ hi
    unfold Blk at hb hb'
    rw [hb] at hb'
    injection hb' with hb'
    injection hb' with _ e2
    subst e2
    rcases e with e | e | e
    · exact ht.1 e
    · exact ht.2.1 e
    · exact ht.2.2 e
  refine ⟨s2.ph.mod hm (fun hs => ha _ hs (.inl (.inl rfl))) (fun hs => ha _ hs (.inl (.inr rfl))) (fun i cs hb => hn i _ cs hb (by decide)), s2.rf.mod hm (fun hs => ha _ hs (.inr (.inl rfl))) (fun i e hs => ha _ hs (.inr (.inr e))) (fun i cs hb => hn i _ cs hb (by decide)), s2.dis⟩
theorem SP.lt (s : SP w B g h p r) {i : Nat} (hi : Bk g h p r i) : B ≤ i ∧ i < w.heap.size := lt_all s.ph s.rf hi
end
theorem Good.play {N : Nat} {st : Bool} {m : PM} {c : Nat} (h : Good N st m c) (o : Op3) : Good N st (playM m o) (c + 1) := by
  unfold playM
  split
  · exact h.more
  · split
    · exact (h.save _).more
    · split
      · exact (h.reach _).more
      · split
        · exact h.turn
        · exact h.draw.more
def SameOr (g1 h1 g2 h2 : Nat) (p1 p2 : PV) (r1 r2 : RV) : Prop := (g1 = g2 ∧ h1 = h2 ∧ p1 = p2 ∧ r1 = r2) ∨ ∀ i, Bk g1 h1 p1 r1 i → ¬ Bk g2 h2 p2 r2 i
/-- Two pairs of stores: the same, or apart. -/
structure QS (wr : World) (B g1 h1 g2 h2 : Nat) (p1 p2 : PV) (r1 r2 : RV) (N : Nat) (st : Bool) (k : Nat) : Prop where
  a : SP wr B g1 h1 p1 r1
  b : SP wr B g2 h2 p2 r2
  so : SameOr g1 h1 g2 h2 p1 p2 r1 r2
  ga : Good N st p1.abs k
  gb : Good N st p2.abs k
section
variable {w wr w' : World} {B g1 h1 g2 h2 N k : Nat} {st : Bool} {p1 p2 : PV} {r1 r2 : RV}
theorem QS.below (q : QS wr B g1 h1 g2 h2 p1 p2 r1 r2 N st k) (hb : Below wr.heap.size wr w') : QS w' B g1 h1 g2 h2 p1 p2 r1 r2 N st k := ⟨q.a.below hb, q.b.below hb, q.so, q.ga, q.gb⟩
theorem QS.next (q : QS wr B g1 h1 g2 h2 p1 p2 r1 r2 N st k) : QS wr B g1 h1 g2 h2 p1 p2 r1 r2 N st (k + 1) := ⟨q.a, q.b, q.so, q.ga.more, q.gb.more⟩
theorem QS.play (q : QS wr B g1 h1 g2 h2 p1 p2 r1 r2 N st k) (x : Op3) (h : PF wr w' B g1 h1 p1 r1 (playM p1.abs x)) (hB : B ≤ wr.heap.size) :
    (∃ p1' p2' r1' r2', QS w' B g1 h1 g2 h2 p1' p2' r1' r2' N st (k + 1)) ∧ Below B wr w' := by
  obtain ⟨p', r', a1, a2, a3, a4, a5, a6⟩ := h
  have hs : SP w' B g1 h1 p' r' := ⟨a1, by rw [a2]; exact a4, fun i e => by rw [a3]; exact q.a.dis i (by rw [← a5]; exact e)⟩
  have hg : Good N st p'.abs (k + 1) := by rw [a2]; exact q.ga.play x
  have hk : ∀ i, Bk g1 h1 p' r' i → Bk g1 h1 p1 r1 i := fun i hi => by unfold Bk at hi ⊢; unfold Two at hi ⊢; rw [a3, a5] at hi; exact hi
  refine ⟨?_, a6.below (fun i _ hi => (q.a.lt hi).1) hB⟩
  rcases q.so with ⟨rfl, rfl, rfl, rfl⟩ | hap
  · exact ⟨p', p', r', r', hs, hs, .inl ⟨rfl, rfl, rfl, rfl⟩, hg, hg⟩
  · exact ⟨p', p2, r', r2, hs, q.a.other q.b hap a6, .inr fun i hi => hap i (hk i hi), hg, q.gb.more⟩
end
set_option maxRecDepth 100000 in
set_option maxHeartbeats 8000000 in
theorem pplays_walk (n : Int) (st : Bool) (seed : Int) (a : Option Addr) (len cap : Nat) (ops : List Op3) (w : World) (hl : ops.length = len) (hm : len ≤ 9223372036854775807) (hn0 : -9223372036854775808 ≤ n) (hn1 : n ≤ 9223372036854775807)
    (hs0 : 0 ≤ seed) (hs1 : seed ≤ 18446744073709551615) (ho : Ops w.heap.size w a ops) (hpu : ∀ (i : Nat) (o : Op3), ops[i]? = some o → Ops.Pure o) :
    Calls Try.prog 6 #[.int .i64 n, .bool st, .int .u64 seed, .slice a len cap] w fun e w' => e = .returned (.bool true) ∧ Below w.heap.size w w' := by
  have HL := Lib.hid hl
  have HO := Lib.hid ho
  have HPU := Lib.hid hpu
  have HA := Lib.hid (large_any n a len cap ops w hl hm hn0 hn1 ho)
  clear hl ho hpu
  go_enter Try.func6, Try.ntmps6
  go_wp2_with fail
  refine HA.out.mono ?_
  rintro e w1 ⟨rfl, b, rfl, hb⟩
  have HF := Lib.hid hb
  clear hb
  cases b
  case true =>
    go_wp2_with fail
    refine (works_ok _).mono ?_
    rintro e w2 ⟨rfl, hb2⟩
    have HB2 := Lib.hid hb2
    clear hb2
    go_wp2
    go_ret
    exact ⟨rfl, HB2.out⟩
  case false =>
    have hfit := HF.out rfl
    have HFT := Lib.hid hfit
    clear hfit
    by_cases hbad : n < 0 ∨ 1048576 < n
    · have HN := Lib.hid (fun W => new_bad n st seed W hbad)
      have HN2 := Lib.hid (fun W => rnew_bad n st seed W hbad)
      clear hbad
      go_wp2_with fail
      refine (HN.out _).mono ?_
      rintro e w2 ⟨rfl, rfl⟩
      go_wp2_with fail
      refine (HN2.out _).mono ?_
      rintro e w2 ⟨rfl, rfl⟩
      go_wp2_with fail
      refine (works_ok _).mono ?_
      rintro e w2 ⟨rfl, hb2⟩
      have HB2 := Lib.hid hb2
      clear hb2
      go_wp2
      go_ret
      exact ⟨rfl, HB2.out⟩
    obtain ⟨N, rfl⟩ : ∃ N : Nat, n = N := ⟨n.toNat, by omega⟩
    have hN : N ≤ 100 := by have := HFT.out.n; omega
    have hlen : len ≤ 120 := by have := HFT.out.len; have := HL.out; omega
    clear hbad
    have HN := Lib.hid (fun W => new_ok N st seed W (by omega) hs0 hs1)
    have HN2 := Lib.hid (fun W => rnew_ok N st seed W (by omega) hs0 hs1)
    have HGN := Lib.hid (Good.new N st seed hs0 hs1)
    clear hs0 hs1 hm hn0 hn1
    go_wp2_with fail
    refine (HN.out _).mono ?_
    rintro e w2 ⟨g1, p, rfl, h1, hm1, hg1, hb1⟩
    have P1 := Lib.hid h1
    have M1 := Lib.hid hm1
    have B1 := Lib.hid hb1
    clear h1 hm1 hb1 hg1
    go_wp2_with fail
    refine (HN2.out _).mono ?_
    rintro e w3 ⟨g2, r, rfl, h1, hb1⟩
    have B2 := Lib.hid (below_then B1.out hb1 B1.out.size)
    have Q0 := Lib.hid (show QS w3 w.heap.size g1 g2 g1 g2 p p r r N st 0 from by
      have hs : SP w3 w.heap.size g1 g2 p r := ⟨P1.out.below hb1, by
        rw [M1.out]
        exact ⟨h1.blk, by
          rcases h1.val with k | ⟨i, k1, k2, k3⟩
          · exact .inl k
          · exact .inr ⟨i, k1, Nat.le_trans B1.out.size k2, k3⟩, by
          rcases h1.t with k | ⟨i, k1, k2, k3⟩
          · exact .inl k
          · exact .inr ⟨i, k1, Nat.le_trans B1.out.size k2, k3⟩, by
          rcases h1.b with k | ⟨i, k1, k2, k3⟩
          · exact .inl k
          · exact .inr ⟨i, k1, Nat.le_trans B1.out.size k2, k3⟩, Nat.le_trans B1.out.size h1.bg, h1.len, h1.st0, h1.st1, h1.tu0, h1.tf, h1.bf, h1.tv, h1.bv, h1.tm, h1.bm⟩,
        fun i e => by
          have := (h1.vlt e).1
          have := P1.out.row.lt
          omega⟩
      exact ⟨hs, hs, .inl ⟨rfl, rfl, rfl, rfl⟩, by rw [M1.out]; exact HGN.out, by rw [M1.out]; exact HGN.out⟩)
    clear h1 hb1 P1 M1 B1 HN HN2 HGN HA HF
    go_wp2_with fail
    go_loopw [9, 11, 13, 14, 15] (fun a1 b1 a2 b2 x wr => ∃ (k g1 h1 g2 h2 : Nat) (p1 p2 : PV) (r1 r2 : RV), k ≤ len ∧ x = .int .i64 k ∧ a1 = .pointer (some ⟨g1, 0, none⟩) ∧ b1 = .pointer (some ⟨h1, 0, none⟩) ∧ a2 = .pointer (some ⟨g2, 0, none⟩) ∧ b2 = .pointer (some ⟨h2, 0, none⟩) ∧ QS wr w.heap.size g1 h1 g2 h2 p1 p2 r1 r2 N st k ∧ Below w.heap.size w wr) (fun _ _ _ _ x _ => len - (intOf x).toNat)
    case atStart => exact ⟨0, g1, g2, g1, g2, p, p, r, r, Nat.zero_le _, rfl, rfl, rfl, rfl, rfl, Q0.out, B2.out⟩
    case round =>
      clear Q0 B2
      obtain ⟨k, g1, h1, g2, h2, p1, p2, r1, r2, hk, rfl, rfl, rfl, rfl, rfl, hq, hb⟩ := hrel
      have HQ := Lib.hid hq
      have HB := Lib.hid hb
      clear hq hb
      by_cases hlt : k < len
      · have hkl : k < ops.length := by rw [HL.out]; exact hlt
        obtain ⟨b, off, ha, hob, hoc⟩ := (HO.out.below HB.out) (by omega)
        subst ha
        have hok := hoc k _ (List.getElem?_eq_getElem hkl)
        have h4 := HFT.out.each k _ (List.getElem?_eq_getElem hkl)
        have hpu := HPU.out k _ (List.getElem?_eq_getElem hkl)
        generalize ops[k] = x at *
        have c0 := hok.k
        have c1 := hok.v
        have c2 := hok.s
        have HOK := Lib.hid (op_ok hok h4)
        have HPX := Lib.hid hpu
        have hk0 := hok.k0
        have HTM := Lib.hid (show x.kind.tmod 9 = x.kind % 9 from Int.tmod_eq_emod_of_nonneg hok.k0)
        clear hok hoc hob hkl h4 hpu
        have hr : x.kind % 9 = 7 ∨ x.kind % 9 = 8 ∨ (x.kind % 9 ≠ 7 ∧ x.kind % 9 ≠ 8) := by omega
        rcases hr with hr | hr | hr
        case' inl =>
          have ht1 : x.kind.tmod 9 = 7 := HTM.out.trans hr
          clear hr
          go_wp2_with fail
          refine (copy_ok HQ.out.a.ph HB.out.size).mono ?_
          rintro e w4 ⟨g3, p3, rfl, hp3, ha3, hg3, hs3, hb3⟩
          have HP3 := Lib.hid hp3
          have HA3 := Lib.hid ha3
          have HG3 := Lib.hid hg3
          have HS3 := Lib.hid hs3
          have HB3 := Lib.hid hb3
          clear hp3 ha3 hg3 hs3 hb3
          go_wp2_with fail
          refine (rcopy_ok (HQ.out.a.rf.below HB3.out) (Nat.le_trans HB.out.size HB3.out.size)).mono ?_
          rintro e wz ⟨h3, r3, rfl, hr3, hg4, hv4, hb4⟩
          have HZ := Lib.hid (show (∃ p1' p2' r1' r2', QS wz w.heap.size g3 h3 g1 h1 p1' p2' r1' r2' N st (k + 1)) ∧ Below w.heap.size w wz from by
            have hz := HB3.out.size
            have hs : SP wz w.heap.size g3 h3 p3 r3 := ⟨HP3.out.below hb4, by rw [HA3.out]; exact hr3, fun i e => by
              have := hv4 i e
              have := HP3.out.row.lt
              omega⟩
            refine ⟨⟨p3, p1, r3, r1, hs, HQ.out.a.below (below_then HB3.out hb4 hz), .inr fun i hi hj => ?_, by rw [HA3.out]; exact HQ.out.ga.more, HQ.out.ga.more⟩, below_then (below_then HB.out HB3.out HB.out.size) hb4 (Nat.le_trans HB.out.size hz)⟩
            have hl := (HQ.out.a.lt hj).2
            have := HG3.out
            have := HS3.out
            rcases hi with (rfl | rfl) | (rfl | e)
            · omega
            · omega
            · omega
            · have := hv4 i e; omega)
          clear hr3 hg4 hv4 hb4 HP3 HA3 HG3 HS3 HB3
          clear ht1 c0 c1 c2
          go_wp2_with fail
        case' inr.inl =>
          have ht1 : x.kind.tmod 9 = 8 := HTM.out.trans hr
          have HZ := Lib.hid (show (∃ p1' p2' r1' r2', QS wr w.heap.size g2 h2 g2 h2 p1' p2' r1' r2' N st (k + 1)) ∧ Below w.heap.size w wr from ⟨⟨p2, p2, r2, r2, HQ.out.b, HQ.out.b, .inl ⟨rfl, rfl, rfl, rfl⟩, HQ.out.gb.more, HQ.out.gb.more⟩, HB.out⟩)
          clear hr
          obtain ⟨wz, hwz⟩ : ∃ wz : World, wz = wr := ⟨_, rfl⟩
          subst hwz
          go_wp2_with fail
          all_goals clear ht1 c0 c1 c2
        case' inr.inr =>
          have ht1 : ∃ q, x.kind.tmod 9 = q ∧ (q == 7) = false ∧ (q == 8) = false := ⟨_, rfl, by rw [HTM.out]; simp [hr.1], by rw [HTM.out]; simp [hr.2]⟩
          obtain ⟨q, hq, hq7, hq8⟩ := ht1
          have HPL := Lib.hid (plays_ok HQ.out.a.ph HQ.out.a.rf HB.out.size HQ.out.a.dis (Nat.le_refl _) (by have := HQ.out.ga.tu; have : p1.abs.turned = p1.turned := rfl; omega) x HOK.out HPX.out)
          clear hr
          unfold opV at HPL
          go_wp2_with fail
          refine HPL.out.mono ?_
          rintro e wz ⟨rfl, hpf⟩
          have HZ := Lib.hid (show (∃ p1' p2' r1' r2', QS wz w.heap.size g1 h1 g2 h2 p1' p2' r1' r2' N st (k + 1)) ∧ Below w.heap.size w wz from by
            obtain ⟨k1, k2⟩ := HQ.out.play x hpf HB.out.size
            exact ⟨k1, HB.out.trans k2⟩)
          clear hpf HPL hq hq7 hq8 c0 c1 c2
          go_wp2_with fail
        all_goals
          obtain ⟨⟨q1, q2, s1, s2, hqz⟩, hbz⟩ := HZ.out
          have HQZ := Lib.hid hqz
          have HBZ := Lib.hid hbz
          clear hqz hbz HZ HQ HB HOK HPX HTM
          refine (tells_ok HQZ.out.a.ph HQZ.out.a.rf).mono ?_
          rintro e wy ⟨rfl, hby⟩
          have HQY := Lib.hid (HQZ.out.below hby)
          have HBY := Lib.hid (below_then HBZ.out hby HBZ.out.size)
          clear hby HQZ HBZ
          go_wp2_with fail
          refine (tells_ok HQY.out.a.ph HQY.out.a.rf).mono ?_
          rintro e wx ⟨rfl, hbx⟩
          have HQX := Lib.hid (HQY.out.below hbx)
          have HBX := Lib.hid (below_then HBY.out hbx HBY.out.size)
          clear hbx HQY HBY
          go_wp2
          go_roundw
          case rel => exact ⟨k + 1, _, _, _, _, _, _, _, _, by omega, by go_num, rfl, rfl, rfl, rfl, HQX.out, HBX.out⟩
          case measure => simp [intOf]; omega
      · go_wp2_with fail
        refine (tells_ok HQ.out.b.ph HQ.out.b.rf).mono ?_
        rintro e wy ⟨rfl, hby⟩
        have HBY := Lib.hid (below_then HB.out hby HB.out.size)
        clear hby
        go_wp2_with fail
        refine (works_ok _).mono ?_
        rintro e wx ⟨rfl, hbx⟩
        have HBX := Lib.hid (below_then HBY.out hbx HBY.out.size)
        clear hbx
        go_wp2
        go_ret
        exact ⟨rfl, HBX.out⟩
end Go.Proofs.Ytcmicmghnmklnaa.Ph
