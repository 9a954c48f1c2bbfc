/- QueuePlays: the walk. Condition: the memory. -/
import Derived.Test.YtgldhnjbodmbbaaQx
namespace Go.Proofs.Ytgldhnjbodmbbaa.Qu
open Go.RowKit Go.Proofs.Ytgldhnjbodmbbaa.Mem Go.Proofs.Ytgldhnjbodmbbaa.Sl Go.Shelf
open Go.Proofs.Ytgldhnjbodmbbaa.FnL (enc_at below_then)
open Go.Proofs.Ytgldhnjbodmbbaa.OpQ (OQ Ops Pure)
set_option linter.unusedVariables false

/-- Two pairs, the same or apart. -/
structure PS (w : World) (B : Nat) (q1 : QA) (g1 : Nat) (d1 : DR) (m1 : QM) (q2 : QA) (g2 : Nat) (d2 : DR) (m2 : QM) (k : Nat) : Prop where
  a : St w B q1 g1 d1 m1
  b : St w B q2 g2 d2 m2
  so : (q1 = q2 ∧ g1 = g2 ∧ d1 = d2 ∧ m1 = m2) ∨ ∀ i, FP q1 g1 d1 i → ¬ FP q2 g2 d2 i
  ka : m1.moved ≤ k
  kb : m2.moved ≤ k
theorem bumpM_moved (m : QM) (l : List Int) : (bumpM m l).moved ≤ m.moved + 1 := by
  unfold bumpM
  split
  · omega
  · split
    · omega
    · exact Int.le_refl _
theorem playM_moved (m : QM) (x : OQ) : (playM m x).moved ≤ m.moved + 1 := by
  unfold playM
  split
  · omega
  · exact bumpM_moved _ _
section
variable {w w' : World} {B : Nat} {q1 q2 : QA} {g1 g2 : Nat} {d1 d2 : DR} {m1 m2 : QM} {k : Nat}
theorem PS.below (h : PS w B q1 g1 d1 m1 q2 g2 d2 m2 k) (hb : Below w.heap.size w w') : PS w' B q1 g1 d1 m1 q2 g2 d2 m2 k := ⟨h.a.below hb, h.b.below hb, h.so, h.ka, h.kb⟩
theorem PS.play (h : PS w B q1 g1 d1 m1 q2 g2 d2 m2 k) (hB : B ≤ w.heap.size) (x : OQ) (hp : PLR w B q1 g1 d1 (playM m1 x) w') : (∃ d1' m1' d2' m2', PS w' B q1 g1 d1' m1' q2 g2 d2' m2' (k + 1)) ∧ Below B w w' := by
  obtain ⟨d', h1, h2, h3⟩ := hp
  have hk := playM_moved m1 x
  have ha := h.ka
  have hb := h.kb
  refine ⟨?_, Mem.Below.then_mod (Below.refl _ _) h2 (fun i hi e => absurd (h.a.lt e).1 (Nat.not_le_of_lt hi)) hB⟩
  rcases h.so with ⟨rfl, rfl, rfl, rfl⟩ | hap
  · exact ⟨d', _, d', _, h1, h1, .inl ⟨rfl, rfl, rfl, rfl⟩, by omega, by omega⟩
  · refine ⟨d', _, d2, m2, h1, h.b.mod h2 (fun i hi e => hap i e hi) (fun i hb => h.a.bools hb), .inr fun i hi hj => ?_, by omega, by omega⟩
    rcases hi with e | e
    · exact hap i (.inl e) hj
    · rcases h3 i e with e2 | e2
      · exact hap i (.inr e2) hj
      · exact absurd (h.b.lt hj).2 (Nat.not_lt_of_le e2)
end
/-- A new pair, of two blocks of memory laid one behind the other. -/
theorem St.fresh {w w1 w2 : World} {B : Nat} {q : QA} {g : Nat} {d : DR} {m : QM} (h1 : QL w1 w.heap.size q m) (hb : Below w1.heap.size w1 w2) (h2 : RqR w2 w1.heap.size g d) (hi : DInv m d) (hB : B ≤ w.heap.size) (hs : w.heap.size ≤ w1.heap.size) : St w2 B q g d m ∧ ∀ i, FP q g d i → w.heap.size ≤ i :=
  ⟨⟨(h1.below hb).low hB, h2.low (Nat.le_trans hB hs), hi, fun i e e2 => absurd (h1.minB e).2 (Nat.not_lt_of_le (h2.minB e2).1)⟩, fun i hi => hi.elim (fun e => (h1.minB e).1) (fun e => Nat.le_trans hs (h2.minB e).1)⟩
set_option maxRecDepth 100000 in
set_option maxHeartbeats 8000000 in
theorem qplays_walk (n : Int) (a : Option Addr) (len cap : Nat) (ops : List OQ) (w : World) (hl : ops.length = len) (hm : len ≤ 9223372036854775807) (hn0 : -9223372036854775808 ≤ n) (hn1 : n ≤ 9223372036854775807) (ho : Ops w.heap.size w a ops) (hpu : ∀ o, o ∈ ops → Pure o) :
    Calls Try.prog 6 #[.int .i64 n, .slice a len cap] w fun e w' => e = .returned (.bool true) ∧ Below w.heap.size w w' := by
  have HL := Lib.hid hl
  have HO := Lib.hid ho
  have HPU := Lib.hid hpu
  have HA := Lib.hid (large_any n a len cap ops w hl hm hn0 hn1 ho)
  clear hl ho hpu
  go_enter Try.func6, Try.ntmps6
  go_wp2_with fail
  refine HA.out.mono ?_
  rintro e w1 ⟨⟨b, rfl, hb⟩, hb1⟩
  have HF := Lib.hid hb
  have HB1 := Lib.hid hb1
  clear hb hb1
  cases b
  case true =>
    go_wp2_with fail
    refine (works_ok _).mono ?_
    rintro e w2 ⟨rfl, hb2⟩
    have HB2 := Lib.hid (below_then HB1.out hb2 HB1.out.size)
    clear hb2
    go_wp2
    go_ret
    exact ⟨rfl, HB2.out⟩
  case false =>
    have HFT := Lib.hid (HF.out rfl)
    by_cases hbad : n < 0 ∨ 1048576 < n
    · have HN := Lib.hid (fun W => new_bad n hbad W)
      have HN2 := Lib.hid (fun W => rnew_bad n hbad W)
      clear hbad
      go_wp2_with fail
      refine (HN.out _).mono ?_
      rintro e w2 ⟨rfl, rfl⟩
      go_wp2_with fail
      refine (HN2.out _).mono ?_
      rintro e w2 ⟨rfl, rfl⟩
      go_wp2_with fail
      refine (works_ok _).mono ?_
      rintro e w2 ⟨rfl, hb2⟩
      have HB2 := Lib.hid (below_then HB1.out hb2 HB1.out.size)
      clear hb2
      go_wp2
      go_ret
      exact ⟨rfl, HB2.out⟩
    obtain ⟨N, rfl⟩ : ∃ N : Nat, n = N := ⟨n.toNat, by omega⟩
    have hN : N ≤ 100 := by have := HFT.out.n; omega
    have hlen : len ≤ 100 := by have := HFT.out.len; have := HL.out; omega
    clear hbad
    have HN := Lib.hid (fun W => qnew_ok N (by omega) W)
    have HN2 := Lib.hid (fun W => rnew_ok N (by omega) W)
    clear hm hn0 hn1
    go_wp2_with fail
    refine (HN.out _).mono ?_
    rintro e w2 ⟨q, rfl, hq, hb⟩
    have HQ := Lib.hid hq
    have HB2 := Lib.hid hb
    clear hq hb
    go_wp2_with fail
    refine (HN2.out _).mono ?_
    rintro e w3 ⟨g, d, rfl, hr, hi, hb⟩
    have HB3 := Lib.hid (below_then (below_then HB1.out HB2.out HB1.out.size) hb (Nat.le_trans HB1.out.size HB2.out.size))
    have Q0 := Lib.hid (show PS w3 w.heap.size q g d (newQ N) q g d (newQ N) 0 from by
      have hs := (St.fresh HQ.out hb hr hi HB1.out.size HB2.out.size).1
      exact ⟨hs, hs, .inl ⟨rfl, rfl, rfl, rfl⟩, Int.le_refl _, Int.le_refl _⟩)
    generalize newQ N = m0 at *
    clear hr hi hb HQ HB2 HN HN2 HA HF
    go_wp2_with fail
    go_loopw [5, 7, 9, 10, 11] (fun a1 b1 a2 b2 x wr => ∃ (k : Nat) (q1 : QA) (g1 : Nat) (d1 : DR) (m1 : QM) (q2 : QA) (g2 : Nat) (d2 : DR) (m2 : QM), k ≤ len ∧ x = .int .i64 k ∧ a1 = .pointer (some ⟨q1.g, 0, none⟩) ∧ b1 = .pointer (some ⟨g1, 0, none⟩) ∧ a2 = .pointer (some ⟨q2.g, 0, none⟩) ∧ b2 = .pointer (some ⟨g2, 0, none⟩) ∧ PS wr w.heap.size q1 g1 d1 m1 q2 g2 d2 m2 k ∧ Below w.heap.size w wr) (fun _ _ _ _ x _ => len - (intOf x).toNat)
    case atStart => exact ⟨0, q, g, d, m0, q, g, d, m0, Nat.zero_le _, rfl, rfl, rfl, rfl, rfl, Q0.out, HB3.out⟩
    case round =>
      clear Q0 HB3
      obtain ⟨k, q1, g1, d1, m1, q2, g2, d2, m2, hk, rfl, rfl, rfl, rfl, rfl, hq, hb⟩ := hrel
      have HQ := Lib.hid hq
      have HB := Lib.hid hb
      clear hq hb
      by_cases hlt : k < len
      · have hkl : k < ops.length := by rw [HL.out]; exact hlt
        obtain ⟨b, off, ha, hob, hoc⟩ := (HO.out.below HB.out) (by omega)
        subst ha
        have hok := hoc k _ (List.getElem?_eq_getElem hkl)
        have h4 := HFT.out.each k _ (List.getElem?_eq_getElem hkl)
        have hpu := HPU.out _ (List.getElem_mem hkl)
        generalize ops[k] = x at *
        have c0 := hok.k
        have c1 := hok.s1
        have c2 := hok.s2
        have HOK := Lib.hid (show OpOk w.heap.size wr x from ⟨hok.k0, hok.k1, hok.n1, hok.n2, hok.r1, hok.r2⟩)
        have HPX := Lib.hid hpu
        have H4 := Lib.hid h4
        have hk0 := hok.k0
        have HTM := Lib.hid (show x.kind.tmod 6 = x.kind % 6 from Int.tmod_eq_emod_of_nonneg hok.k0)
        clear hok hoc hob hkl h4 hpu
        have hr : x.kind % 6 = 4 ∨ x.kind % 6 = 5 ∨ (x.kind % 6 ≠ 4 ∧ x.kind % 6 ≠ 5) := by omega
        rcases hr with hr | hr | hr
        case' inl =>
          have ht1 : x.kind.tmod 6 = 4 := HTM.out.trans hr
          clear hr
          go_wp2_with fail
          refine (qcopy_ok HQ.out.a.lq).mono ?_
          rintro e w4 ⟨q3, rfl, hq3, hb3⟩
          have HQ3 := Lib.hid hq3
          have HB3 := Lib.hid hb3
          have HRC := Lib.hid (rcopy_any (HQ.out.a.r.below hb3) HQ.out.a.i)
          clear hq3 hb3
          go_wp2_with fail
          refine HRC.out.mono ?_
          rintro e wz ⟨⟨g3, d3, rfl, hr3, hi3⟩, hb4⟩
          have HZ := Lib.hid (show (∃ d1' m1' d2' m2', PS wz w.heap.size q3 g3 d1' m1' q1 g1 d2' m2' (k + 1)) ∧ Below w.heap.size w wz from by
            obtain ⟨f1, f2⟩ := St.fresh HQ3.out hb4 hr3 hi3 HB.out.size HB3.out.size
            have ka := HQ.out.ka
            exact ⟨⟨d3, m1, d1, m1, f1, (HQ.out.a.below HB3.out).below hb4, .inr fun i hi hj => absurd (HQ.out.a.lt hj).2 (Nat.not_lt_of_le (f2 i hi)), by omega, by omega⟩, below_then (below_then HB.out HB3.out HB.out.size) hb4 (Nat.le_trans HB.out.size HB3.out.size)⟩)
          clear hr3 hi3 hb4 HQ3 HB3 HRC
          clear ht1 c0 c1 c2
          go_wp2_with fail
        case' inr.inl =>
          have ht1 : x.kind.tmod 6 = 5 := HTM.out.trans hr
          have HZ := Lib.hid (show (∃ d1' m1' d2' m2', PS wr w.heap.size q2 g2 d1' m1' q2 g2 d2' m2' (k + 1)) ∧ Below w.heap.size w wr from by
            have kb := HQ.out.kb
            exact ⟨⟨d2, m2, d2, m2, HQ.out.b, HQ.out.b, .inl ⟨rfl, rfl, rfl, rfl⟩, by omega, by omega⟩, HB.out⟩)
          clear hr
          obtain ⟨wz, hwz⟩ : ∃ wz : World, wz = wr := ⟨_, rfl⟩
          subst hwz
          go_wp2_with fail
          all_goals clear ht1 c0 c1 c2
        case' inr.inr =>
          have ht1 : ∃ q, x.kind.tmod 6 = q ∧ (q == 4) = false ∧ (q == 5) = false := ⟨_, rfl, by rw [HTM.out]; simp [hr.1], by rw [HTM.out]; simp [hr.2]⟩
          obtain ⟨qq, hq, hq7, hq8⟩ := ht1
          have HPL := Lib.hid (plays_ok HQ.out.a HB.out.size (Nat.le_refl _) (by have := HQ.out.ka; omega) x HOK.out HPX.out (by have := H4.out.1; omega) (by have := H4.out.2; omega))
          clear hr
          unfold opV at HPL
          go_wp2_with fail
          refine HPL.out.mono ?_
          rintro e wz ⟨rfl, hpf⟩
          have HZ := Lib.hid (show (∃ d1' m1' d2' m2', PS wz w.heap.size q1 g1 d1' m1' q2 g2 d2' m2' (k + 1)) ∧ Below w.heap.size w wz from by
            obtain ⟨k1, k2⟩ := HQ.out.play HB.out.size x hpf
            exact ⟨k1, HB.out.trans k2⟩)
          clear hpf HPL hq hq7 hq8 c0 c1 c2
          go_wp2_with fail
        all_goals
          obtain ⟨⟨e1, n1, e2, n2, hqz⟩, hbz⟩ := HZ.out
          have HQZ := Lib.hid hqz
          have HBZ := Lib.hid hbz
          clear hqz hbz HZ HQ HB HOK HPX HTM H4
          refine (tells_any HQZ.out.a).mono ?_
          rintro e wy ⟨rfl, hby⟩
          have HQY := Lib.hid (HQZ.out.below hby)
          have HBY := Lib.hid (below_then HBZ.out hby HBZ.out.size)
          clear hby HQZ HBZ
          go_wp2_with fail
          refine (tells_any HQY.out.a).mono ?_
          rintro e wx ⟨rfl, hbx⟩
          have HQX := Lib.hid (HQY.out.below hbx)
          have HBX := Lib.hid (below_then HBY.out hbx HBY.out.size)
          clear hbx HQY HBY
          go_wp2
          go_roundw
          case rel => exact ⟨k + 1, _, _, _, _, _, _, _, _, by omega, by go_num, rfl, rfl, rfl, rfl, HQX.out, HBX.out⟩
          case measure => simp [intOf]; omega
      · go_wp2_with fail
        refine (tells_any HQ.out.b).mono ?_
        rintro e wy ⟨rfl, hby⟩
        have HBY := Lib.hid (below_then HB.out hby HB.out.size)
        clear hby
        go_wp2_with fail
        refine (works_ok _).mono ?_
        rintro e wx ⟨rfl, hbx⟩
        have HBX := Lib.hid (below_then HBY.out hbx HBY.out.size)
        clear hbx
        go_wp2
        go_ret
        exact ⟨rfl, HBX.out⟩
end Go.Proofs.Ytgldhnjbodmbbaa.Qu
