/- HeapPlays: its walk. Conditions: the memory. -/
import Derived.Test.YtienomdennbkpaaIa
namespace Go.Proofs.Ytienomdennbkpaa.He
open Go.RowKit Go.Proofs.Ytienomdennbkpaa.Mem Go.Proofs.Ytienomdennbkpaa.Sl Go.Shelf
open Go.Proofs.Ytienomdennbkpaa.FnL (enc_at below_then)
open Go.Proofs.Ytienomdennbkpaa.OpH (OV OVOk OVAt Ops)
set_option linter.unusedVariables false

/-- Those at hand, and those that were left. -/
def Two (w : World) (B N g1 d1 g2 d2 : Nat) : Prop := ∃ q d m l, St w B N q d m l ∧ q.g = g1 ∧ d.g = d1 ∧ ((g2 = g1 ∧ d2 = d1) ∨ ∃ q2 e2 m2 l2, St w B N q2 e2 m2 l2 ∧ q2.g = g2 ∧ e2.g = d2 ∧ ∀ i, FP q d i → ¬ FP q2 e2 i)
section
variable {w w' w2 : World} {B N g1 d1 g2 d2 : Nat}
theorem Two.below (h : Two w B N g1 d1 g2 d2) (hb : Below w.heap.size w w') : Two w' B N g1 d1 g2 d2 := by
  obtain ⟨q, d, m, l, h1, h2, h3, h4⟩ := h
  refine ⟨q, d, m, l, h1.below hb, h2, h3, h4.imp id ?_⟩
  rintro ⟨q2, e2, m2, l2, k1, k2⟩
  exact ⟨q2, e2, m2, l2, k1.below hb, k2⟩
/-- Back to what was left. -/
theorem Two.back (h : Two w B N g1 d1 g2 d2) : Two w B N g2 d2 g2 d2 := by
  obtain ⟨q, d, m, l, h1, h2, h3, h4⟩ := h
  rcases h4 with ⟨e1, e2⟩ | ⟨q2, e2, m2, l2, k1, k2, k3, _⟩
  · subst e1 e2
    exact ⟨q, d, m, l, h1, h2, h3, .inl ⟨rfl, rfl⟩⟩
  · exact ⟨q2, e2, m2, l2, k1, k2, k3, .inl ⟨rfl, rfl⟩⟩
/-- Those that were left tell, too. -/
theorem Two.left (h : Two w B N g1 d1 g2 d2) : ∃ q d m l, St w B N q d m l ∧ q.g = g2 ∧ d.g = d2 := by
  obtain ⟨q, d, m, l, h1, h2, h3, _⟩ := h.back
  exact ⟨q, d, m, l, h1, h2, h3⟩
end
theorem Two.plays {w : World} {B N g1 d1 g2 d2 : Nat} (h : Two w B N g1 d1 g2 d2) (hB : B ≤ w.heap.size) (k v y : Int) (hk : 0 ≤ k) :
    Calls Try.prog 25 #[.pointer (some ⟨g1, 0, none⟩), .pointer (some ⟨d1, 0, none⟩), .agg #[.int .u8 k, .int .i64 v, .int .i64 y]] w fun e w' => e = .returned (.bool true) ∧ Two w' B N g1 d1 g2 d2 ∧ Below B w w' := by
  obtain ⟨q, d, m, l, h1, rfl, rfl, h4⟩ := h
  refine (plays_any h1 hB k v y hk).mono fun e w' ⟨he, hs⟩ => ?_
  obtain ⟨q', d', m', l', s1, s2, s3, s4, s5⟩ := hs
  refine ⟨he, ⟨q', d', m', l', s1, s2, s3, h4.imp (fun e => e) ?_⟩, s5.below (fun i _ hi => (h1.lt hi).1) hB⟩
  rintro ⟨q2, e2, m2, l2, k1, k2, k3, k4⟩
  refine ⟨q2, e2, m2, l2, k1.mod s5 (fun i hi hj => k4 i hj hi), k2, k3, fun i hi hj => ?_⟩
  rcases s4 i hi with e | e
  · exact k4 i e hj
  · have := (k1.lt hj).2; omega
theorem Two.tells {w : World} {B N g1 d1 g2 d2 : Nat} (h : Two w B N g1 d1 g2 d2) (k v y : Int) :
    Calls Try.prog 26 #[.pointer (some ⟨g1, 0, none⟩), .pointer (some ⟨d1, 0, none⟩), .agg #[.int .u8 k, .int .i64 v, .int .i64 y]] w fun e w' => e = .returned (.bool true) ∧ Below w.heap.size w w' := by
  obtain ⟨q, d, m, l, h1, rfl, rfl, _⟩ := h
  exact tells_any h1 k v y
def CopyB (w : World) (B N g1 d1 : Nat) (e : Ending) (w' : World) : Prop := ∃ g3, e = .returned (.pointer (some ⟨g3, 0, none⟩)) ∧ Below w.heap.size w w' ∧
  Calls Try.prog 24 #[.pointer (some ⟨d1, 0, none⟩)] w' fun e w2 => ∃ d3, e = .returned (.pointer (some ⟨d3, 0, none⟩)) ∧ Two w2 B N g3 d3 g1 d1 ∧ Below w.heap.size w w2
theorem Two.copy {w : World} {B N g1 d1 g2 d2 : Nat} (h : Two w B N g1 d1 g2 d2) (hB : B ≤ w.heap.size) :
    Calls Try.prog 23 #[.pointer (some ⟨g1, 0, none⟩)] w (CopyB w B N g1 d1) := by
  obtain ⟨q, d, m, l, h1, rfl, rfl, _⟩ := h
  refine (hcopy_any h1.h).mono fun e w' ⟨⟨q3, k1, k2⟩, k3⟩ => ?_
  refine ⟨q3.g, k1, k3, (dcopy_any (h1.r.below k3)).mono fun e w2 ⟨⟨d3, j1, j2⟩, j3⟩ => ?_⟩
  refine ⟨d3.g, j1, ⟨q3, d3, m, l, ⟨(k2.below j3).low hB, j2.low (Nat.le_trans hB k3.size), h1.o, fun i hi hj => ?_⟩, rfl, rfl, .inr ⟨q, d, m, l, (h1.below k3).below j3, rfl, rfl, fun i hi hj => ?_⟩⟩, below_then k3 j3 k3.size⟩
  · have := (k2.hr.lt hi).2
    have := (j2.lt hj).1
    omega
  · have h5 := (h1.lt hj).2
    rcases hi with hi | hi
    · have := (k2.hr.lt hi).1; omega
    · have := (j2.lt hi).1; have := k3.size; omega
theorem dnew_any (n : Int) (w : World) : Calls Try.prog 22 #[.int .i64 n] w fun e w' => (e = .returned (.tuple #[.pointer none, .int .i64 2]) ∧ w = w' ∧ (n < 0 ∨ 1048576 < n)) ∨ ∃ N : Nat, n = N ∧ N ≤ 1048576 ∧ DNewR w N e w' := by
  by_cases h : n < 0 ∨ 1048576 < n
  · exact (dnew_bad n w h).mono fun e w' ⟨h1, h2⟩ => .inl ⟨h1, h2, h⟩
  · obtain ⟨N, rfl⟩ : ∃ N : Nat, n = N := ⟨n.toNat, by omega⟩
    exact (dnew_ok N (by omega) w).mono fun e w' h1 => .inr ⟨N, rfl, by omega, h1⟩
/-- Both made, one behind the other. -/
theorem both_new {w w1 w2 : World} {N : Nat} {q : HA} {d : DA} (h1 : HL w1 w.heap.size N q (newH N)) (hb1 : Below w.heap.size w w1) (h2 : RH w2 w1.heap.size N d (List.replicate (N + 1) 0) []) (hb2 : Below w1.heap.size w1 w2) : Two w2 w.heap.size N q.g d.g q.g d.g :=
  ⟨q, d, newH N, [], ⟨h1.below hb2, h2.low hb1.size, ⟨List.Perm.refl _, List.Pairwise.nil⟩, fun i hi hj => by
    have := (h1.hr.lt hi).2
    have := (h2.lt hj).1
    omega⟩, rfl, rfl, .inl ⟨rfl, rfl⟩⟩
set_option maxRecDepth 100000 in
set_option maxHeartbeats 4000000 in
theorem heapPlays_any {w : World} (n : Int) (A : Option Addr) (k c : Nat) (ops : List OV) (hk : k = ops.length) (hr : Ops w.heap.size w A ops) (hok : ∀ o, o ∈ ops → OVOk o) :
    Calls Try.prog 6 #[.int .i64 n, .slice A k c] w fun e w' => e = .returned (.bool true) ∧ Below w.heap.size w w' := by
  have HWK := Lib.hid (fun W => works_any W)
  have HLG := Lib.hid (large_any n A k c w)
  by_cases hlg : largeB n k = true
  · rw [hlg] at HLG
    clear hk hr hok hlg
    go_enter Try.func6, Try.ntmps6
    go_wp2_with fail
    refine HLG.out.mono ?_
    rintro e w1 ⟨rfl, rfl⟩
    go_wp2_with fail
    refine (HWK.out w).mono ?_
    rintro e w1 ⟨rfl, hb⟩
    have HB := Lib.hid hb
    clear hb
    go_wp2
    go_ret
    exact ⟨rfl, HB.out⟩
  rw [show largeB n k = false from Bool.not_eq_true _ ▸ hlg] at HLG
  have hk2 : k ≤ 200 := by
    by_cases h : 200 < k
    · exact absurd (decide_eq_true (.inr h)) hlg
    · omega
  have HR := Lib.hid hr
  have HK := Lib.hid hk
  have HOK := Lib.hid hok
  clear hk hr hok hlg
  by_cases hbad : n < 0 ∨ 1048576 < n
  · have HN1 := Lib.hid (new_bad n w hbad)
    have HN2 := Lib.hid (dnew_bad n w hbad)
    clear hbad HR HOK
    go_enter Try.func6, Try.ntmps6
    go_wp2_with fail
    refine HLG.out.mono ?_
    rintro e w1 ⟨rfl, rfl⟩
    go_wp2_with fail
    refine HN1.out.mono ?_
    rintro e w1 ⟨rfl, rfl⟩
    go_wp2_with fail
    refine HN2.out.mono ?_
    rintro e w1 ⟨rfl, rfl⟩
    go_wp2_with fail
    refine (HWK.out w).mono ?_
    rintro e w1 ⟨rfl, hb⟩
    have HB := Lib.hid hb
    clear hb
    go_wp2
    go_ret
    exact ⟨rfl, HB.out⟩
  obtain ⟨N, rfl⟩ : ∃ N : Nat, n = N := ⟨n.toNat, by omega⟩
  have hN : N ≤ 1048576 := by omega
  have HN1 := Lib.hid (new_ok N hN w)
  have HN2 := Lib.hid (fun W => dnew_ok N hN W)
  clear hbad
  go_enter Try.func6, Try.ntmps6
  go_wp2_with fail
  refine HLG.out.mono ?_
  rintro e w1 ⟨rfl, rfl⟩
  go_wp2_with fail
  refine HN1.out.mono ?_
  rintro e w1 ⟨⟨q, rfl, hA⟩, hb1⟩
  have HA := Lib.hid hA
  have HB1 := Lib.hid hb1
  clear hA hb1 HN1
  go_wp2_with fail
  refine (HN2.out w1).mono ?_
  rintro e w2 ⟨⟨d, rfl, hD⟩, hb2⟩
  have HT := Lib.hid (both_new HA.out HB1.out hD hb2)
  have HB2 := Lib.hid (below_then HB1.out hb2 HB1.out.size)
  generalize q.g = g at *
  generalize d.g = gd at *
  clear hD hb2 HA HB1 HN2 HLG
  go_wp2_with fail
  go_loopw [5, 7, 9, 10, 11] (fun h1 m1 h2 m2 i wr => ∃ (j g1 d1 g2 d2 : Nat), j ≤ k ∧ h1 = .pointer (some ⟨g1, 0, none⟩) ∧ m1 = .pointer (some ⟨d1, 0, none⟩) ∧ h2 = .pointer (some ⟨g2, 0, none⟩) ∧ m2 = .pointer (some ⟨d2, 0, none⟩) ∧ i = .int .i64 j ∧ Two wr w.heap.size N g1 d1 g2 d2 ∧ Below w.heap.size w wr) (fun _ _ _ _ i _ => k - (intOf i).toNat)
  case atStart => exact ⟨0, _, _, _, _, Nat.zero_le _, rfl, rfl, rfl, rfl, rfl, HT.out, HB2.out⟩
  case round =>
    clear HT HB2
    obtain ⟨j, g1, d1, g2, d2, hj, rfl, rfl, rfl, rfl, rfl, hT, hb⟩ := hrel
    have HT := Lib.hid hT
    have HB := Lib.hid hb
    clear hT hb
    by_cases hlt : j < k
    · have hlt1 : (j : Int) < (k : Int) := by omega
      have hjl : j < ops.length := by have := HK.out; omega
      obtain ⟨b, off, eA, hbB, c0, c1, c2⟩ := (HR.out.below HB.out).at_ hjl
      have ho := HOK.out _ (List.getElem_mem hjl)
      have HCS := Lib.hid (fun W (hb : Below w.heap.size w W) => (show W.cell? ⟨b, off + j * 3, none⟩ = some (.int .u8 ops[j].k) ∧ W.cell? ⟨b, off + j * 3 + 1, none⟩ = some (.int .i64 ops[j].v) ∧ W.cell? ⟨b, off + j * 3 + 2, none⟩ = some (.int .i64 ops[j].y) from by
        obtain ⟨b', off', e', _, c⟩ := (HR.out.below hb).at_ hjl
        rw [eA] at e'
        cases e'
        exact c))
      subst eA
      generalize ops[j]'hjl = x at *
      have ht0 : 0 ≤ x.k.tmod 8 := Int.tmod_nonneg _ ho.k0
      have hk0 := ho.k0
      clear ho hjl hbB
      have ht1 : x.k.tmod 8 < 8 := Int.tmod_lt_of_pos _ (by decide)
      rcases (show x.k.tmod 8 = 0 ∨ x.k.tmod 8 = 1 ∨ x.k.tmod 8 = 2 ∨ x.k.tmod 8 = 3 ∨ x.k.tmod 8 = 4 ∨ x.k.tmod 8 = 5 ∨ x.k.tmod 8 = 6 ∨ x.k.tmod 8 = 7 by omega) with ht | ht | ht | ht | ht | ht | ht | ht
      · have HPL := Lib.hid (HT.out.plays HB.out.size x.k x.v x.y hk0)
        go_wp2_with fail
        refine HPL.out.mono ?_
        rintro e w4 ⟨rfl, hT4, hb4⟩
        have HT4 := Lib.hid hT4
        have HB4 := Lib.hid (HB.out.trans hb4)
        have HTL := Lib.hid (hT4.tells x.k x.v x.y)
        clear hT4 hb4 HPL c0 c1 c2
        obtain ⟨c0, c1, c2⟩ := HCS.out w4 HB4.out
        go_wp2_with fail
        refine HTL.out.mono ?_
        rintro e w5 ⟨rfl, hb5⟩
        have HT5 := Lib.hid (HT4.out.below hb5)
        have HB5 := Lib.hid (below_then HB4.out hb5 HB4.out.size)
        have HTL := Lib.hid (HT5.out.tells x.k x.v x.y)
        clear hb5 c0 c1 c2
        obtain ⟨c0, c1, c2⟩ := HCS.out w5 HB5.out
        go_wp2_with fail
        refine HTL.out.mono ?_
        rintro e w6 ⟨rfl, hb6⟩
        have HT6 := Lib.hid (HT5.out.below hb6)
        have HB6 := Lib.hid (below_then HB5.out hb6 HB5.out.size)
        clear hb6 c0 c1 c2
        go_wp2
        go_roundw
        case rel => exact ⟨j + 1, _, _, _, _, by omega, rfl, rfl, rfl, rfl, by go_num, HT6.out, HB6.out⟩
        case measure => simp [intOf]; omega
      · have HPL := Lib.hid (HT.out.plays HB.out.size x.k x.v x.y hk0)
        go_wp2_with fail
        refine HPL.out.mono ?_
        rintro e w4 ⟨rfl, hT4, hb4⟩
        have HT4 := Lib.hid hT4
        have HB4 := Lib.hid (HB.out.trans hb4)
        have HTL := Lib.hid (hT4.tells x.k x.v x.y)
        clear hT4 hb4 HPL c0 c1 c2
        obtain ⟨c0, c1, c2⟩ := HCS.out w4 HB4.out
        go_wp2_with fail
        refine HTL.out.mono ?_
        rintro e w5 ⟨rfl, hb5⟩
        have HT5 := Lib.hid (HT4.out.below hb5)
        have HB5 := Lib.hid (below_then HB4.out hb5 HB4.out.size)
        have HTL := Lib.hid (HT5.out.tells x.k x.v x.y)
        clear hb5 c0 c1 c2
        obtain ⟨c0, c1, c2⟩ := HCS.out w5 HB5.out
        go_wp2_with fail
        refine HTL.out.mono ?_
        rintro e w6 ⟨rfl, hb6⟩
        have HT6 := Lib.hid (HT5.out.below hb6)
        have HB6 := Lib.hid (below_then HB5.out hb6 HB5.out.size)
        clear hb6 c0 c1 c2
        go_wp2
        go_roundw
        case rel => exact ⟨j + 1, _, _, _, _, by omega, rfl, rfl, rfl, rfl, by go_num, HT6.out, HB6.out⟩
        case measure => simp [intOf]; omega
      · have HPL := Lib.hid (HT.out.plays HB.out.size x.k x.v x.y hk0)
        go_wp2_with fail
        refine HPL.out.mono ?_
        rintro e w4 ⟨rfl, hT4, hb4⟩
        have HT4 := Lib.hid hT4
        have HB4 := Lib.hid (HB.out.trans hb4)
        have HTL := Lib.hid (hT4.tells x.k x.v x.y)
        clear hT4 hb4 HPL c0 c1 c2
        obtain ⟨c0, c1, c2⟩ := HCS.out w4 HB4.out
        go_wp2_with fail
        refine HTL.out.mono ?_
        rintro e w5 ⟨rfl, hb5⟩
        have HT5 := Lib.hid (HT4.out.below hb5)
        have HB5 := Lib.hid (below_then HB4.out hb5 HB4.out.size)
        have HTL := Lib.hid (HT5.out.tells x.k x.v x.y)
        clear hb5 c0 c1 c2
        obtain ⟨c0, c1, c2⟩ := HCS.out w5 HB5.out
        go_wp2_with fail
        refine HTL.out.mono ?_
        rintro e w6 ⟨rfl, hb6⟩
        have HT6 := Lib.hid (HT5.out.below hb6)
        have HB6 := Lib.hid (below_then HB5.out hb6 HB5.out.size)
        clear hb6 c0 c1 c2
        go_wp2
        go_roundw
        case rel => exact ⟨j + 1, _, _, _, _, by omega, rfl, rfl, rfl, rfl, by go_num, HT6.out, HB6.out⟩
        case measure => simp [intOf]; omega
      · have HPL := Lib.hid (HT.out.plays HB.out.size x.k x.v x.y hk0)
        go_wp2_with fail
        refine HPL.out.mono ?_
        rintro e w4 ⟨rfl, hT4, hb4⟩
        have HT4 := Lib.hid hT4
        have HB4 := Lib.hid (HB.out.trans hb4)
        have HTL := Lib.hid (hT4.tells x.k x.v x.y)
        clear hT4 hb4 HPL c0 c1 c2
        obtain ⟨c0, c1, c2⟩ := HCS.out w4 HB4.out
        go_wp2_with fail
        refine HTL.out.mono ?_
        rintro e w5 ⟨rfl, hb5⟩
        have HT5 := Lib.hid (HT4.out.below hb5)
        have HB5 := Lib.hid (below_then HB4.out hb5 HB4.out.size)
        have HTL := Lib.hid (HT5.out.tells x.k x.v x.y)
        clear hb5 c0 c1 c2
        obtain ⟨c0, c1, c2⟩ := HCS.out w5 HB5.out
        go_wp2_with fail
        refine HTL.out.mono ?_
        rintro e w6 ⟨rfl, hb6⟩
        have HT6 := Lib.hid (HT5.out.below hb6)
        have HB6 := Lib.hid (below_then HB5.out hb6 HB5.out.size)
        clear hb6 c0 c1 c2
        go_wp2
        go_roundw
        case rel => exact ⟨j + 1, _, _, _, _, by omega, rfl, rfl, rfl, rfl, by go_num, HT6.out, HB6.out⟩
        case measure => simp [intOf]; omega
      · have HPL := Lib.hid (HT.out.plays HB.out.size x.k x.v x.y hk0)
        go_wp2_with fail
        refine HPL.out.mono ?_
        rintro e w4 ⟨rfl, hT4, hb4⟩
        have HT4 := Lib.hid hT4
        have HB4 := Lib.hid (HB.out.trans hb4)
        have HTL := Lib.hid (hT4.tells x.k x.v x.y)
        clear hT4 hb4 HPL c0 c1 c2
        obtain ⟨c0, c1, c2⟩ := HCS.out w4 HB4.out
        go_wp2_with fail
        refine HTL.out.mono ?_
        rintro e w5 ⟨rfl, hb5⟩
        have HT5 := Lib.hid (HT4.out.below hb5)
        have HB5 := Lib.hid (below_then HB4.out hb5 HB4.out.size)
        have HTL := Lib.hid (HT5.out.tells x.k x.v x.y)
        clear hb5 c0 c1 c2
        obtain ⟨c0, c1, c2⟩ := HCS.out w5 HB5.out
        go_wp2_with fail
        refine HTL.out.mono ?_
        rintro e w6 ⟨rfl, hb6⟩
        have HT6 := Lib.hid (HT5.out.below hb6)
        have HB6 := Lib.hid (below_then HB5.out hb6 HB5.out.size)
        clear hb6 c0 c1 c2
        go_wp2
        go_roundw
        case rel => exact ⟨j + 1, _, _, _, _, by omega, rfl, rfl, rfl, rfl, by go_num, HT6.out, HB6.out⟩
        case measure => simp [intOf]; omega
      · have HPL := Lib.hid (HT.out.plays HB.out.size x.k x.v x.y hk0)
        go_wp2_with fail
        refine HPL.out.mono ?_
        rintro e w4 ⟨rfl, hT4, hb4⟩
        have HT4 := Lib.hid hT4
        have HB4 := Lib.hid (HB.out.trans hb4)
        have HTL := Lib.hid (hT4.tells x.k x.v x.y)
        clear hT4 hb4 HPL c0 c1 c2
        obtain ⟨c0, c1, c2⟩ := HCS.out w4 HB4.out
        go_wp2_with fail
        refine HTL.out.mono ?_
        rintro e w5 ⟨rfl, hb5⟩
        have HT5 := Lib.hid (HT4.out.below hb5)
        have HB5 := Lib.hid (below_then HB4.out hb5 HB4.out.size)
        have HTL := Lib.hid (HT5.out.tells x.k x.v x.y)
        clear hb5 c0 c1 c2
        obtain ⟨c0, c1, c2⟩ := HCS.out w5 HB5.out
        go_wp2_with fail
        refine HTL.out.mono ?_
        rintro e w6 ⟨rfl, hb6⟩
        have HT6 := Lib.hid (HT5.out.below hb6)
        have HB6 := Lib.hid (below_then HB5.out hb6 HB5.out.size)
        clear hb6 c0 c1 c2
        go_wp2
        go_roundw
        case rel => exact ⟨j + 1, _, _, _, _, by omega, rfl, rfl, rfl, rfl, by go_num, HT6.out, HB6.out⟩
        case measure => simp [intOf]; omega
      · have HC := Lib.hid (HT.out.copy HB.out.size)
        go_wp2_with fail
        refine HC.out.mono ?_
        rintro e w3 ⟨g3, rfl, hb3, hc⟩
        have HC2 := Lib.hid hc
        have HB3 := Lib.hid (below_then HB.out hb3 HB.out.size)
        obtain ⟨c30, c31, c32⟩ := HCS.out w3 HB3.out
        clear hc hb3 HC c0 c1 c2
        go_wp2_with fail
        refine HC2.out.mono ?_
        rintro e w4 ⟨d3, rfl, hT4, hb4⟩
        have HT4 := Lib.hid hT4
        have HB4 := Lib.hid (below_then HB.out hb4 HB.out.size)
        obtain ⟨c0, c1, c2⟩ := HCS.out w4 HB4.out
        have HTL := Lib.hid (hT4.tells x.k x.v x.y)
        clear hT4 hb4 HC2 c30 c31 c32
        go_wp2_with fail
        refine HTL.out.mono ?_
        rintro e w5 ⟨rfl, hb5⟩
        have HT5 := Lib.hid (HT4.out.below hb5)
        have HB5 := Lib.hid (below_then HB4.out hb5 HB4.out.size)
        have HTL := Lib.hid (HT5.out.tells x.k x.v x.y)
        clear hb5 c0 c1 c2
        obtain ⟨c0, c1, c2⟩ := HCS.out w5 HB5.out
        go_wp2_with fail
        refine HTL.out.mono ?_
        rintro e w6 ⟨rfl, hb6⟩
        have HT6 := Lib.hid (HT5.out.below hb6)
        have HB6 := Lib.hid (below_then HB5.out hb6 HB5.out.size)
        clear hb6 c0 c1 c2
        go_wp2
        go_roundw
        case rel => exact ⟨j + 1, _, _, _, _, by omega, rfl, rfl, rfl, rfl, by go_num, HT6.out, HB6.out⟩
        case measure => simp [intOf]; omega
      · have HT4 := Lib.hid HT.out.back
        have HTL := Lib.hid (HT4.out.tells x.k x.v x.y)
        go_wp2_with fail
        refine HTL.out.mono ?_
        rintro e w5 ⟨rfl, hb5⟩
        have HT5 := Lib.hid (HT4.out.below hb5)
        have HB5 := Lib.hid (below_then HB.out hb5 HB.out.size)
        have HTL := Lib.hid (HT5.out.tells x.k x.v x.y)
        clear hb5 c0 c1 c2
        obtain ⟨c0, c1, c2⟩ := HCS.out w5 HB5.out
        go_wp2_with fail
        refine HTL.out.mono ?_
        rintro e w6 ⟨rfl, hb6⟩
        have HT6 := Lib.hid (HT5.out.below hb6)
        have HB6 := Lib.hid (below_then HB5.out hb6 HB5.out.size)
        clear hb6 c0 c1 c2
        go_wp2
        go_roundw
        case rel => exact ⟨j + 1, _, _, _, _, by omega, rfl, rfl, rfl, rfl, by go_num, HT6.out, HB6.out⟩
        case measure => simp [intOf]; omega
    · have hlt1 : ¬ (j : Int) < (k : Int) := by omega
      have HTL := Lib.hid (HT.out.back.tells 0 0 0)
      go_wp2_with fail
      refine HTL.out.mono ?_
      rintro e w5 ⟨rfl, hb5⟩
      have HB5 := Lib.hid (below_then HB.out hb5 HB.out.size)
      have HWE := Lib.hid (HWK.out w5)
      clear hb5
      go_wp2_with fail
      refine HWE.out.mono ?_
      rintro e w6 ⟨rfl, hb6⟩
      have HB6 := Lib.hid (below_then HB5.out hb6 HB5.out.size)
      clear hb6
      go_wp2
      go_ret
      exact ⟨rfl, HB6.out⟩
end Go.Proofs.Ytienomdennbkpaa.He
