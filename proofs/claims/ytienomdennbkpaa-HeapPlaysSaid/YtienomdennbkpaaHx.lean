/- HeapBumps: its plain law and its walk. Conditions: the memory. -/
import Derived.Test.YtienomdennbkpaaHw
namespace Go.Proofs.Ytienomdennbkpaa.He
open Go.RowKit Go.Proofs.Ytienomdennbkpaa.Mem Go.Proofs.Ytienomdennbkpaa.Sl Go.Shelf
open Go.Proofs.Ytienomdennbkpaa.FnL (enc_at below_then)
set_option linter.unusedVariables false

theorem scI_in {N : Nat} (s : List Int) {a : Int} (h : 1 ≤ a ∧ a ≤ N) : scI N s a = s.getD a.toNat 0 := if_pos (show isB N a = true from decide_eq_true h)
theorem idx_count {s : List Int} {v : Int} : ∀ {l : List Int}, (l.Pairwise fun a b => kf s a < kf s b) → v ∈ l → l.findIdx (· == v) = l.countP (fun u => decide (kf s u < kf s v))
  | x :: l, h, hm => by
    rw [List.pairwise_cons] at h
    rw [List.findIdx_cons, List.countP_cons]
    by_cases hx : x = v
    · subst hx
      have h0 : l.countP (fun u => decide (kf s u < kf s x)) = 0 := List.countP_eq_zero.2 fun u hu => by
        have := h.1 u hu
        simp only [decide_eq_true_eq]; omega
      rw [h0]
      simp
    · have hm2 : v ∈ l := by
        rcases List.mem_cons.1 hm with e | e
        · exact absurd e.symm hx
        · exact e
      have h2 := h.1 v hm2
      rw [idx_count h.2 hm2]
      rw [show (x == v) = false from by simpa using hx]
      simp [h2]
theorem place_ord {s l0 L : List Int} (h : Ord s l0 L) {v : Int} (hv : v ∈ L) : l0.findIdx (· == v) = L.countP (fun u => decide (kf s u < kf s v)) := by
  rw [idx_count h.2 (h.1.mem_iff.2 hv)]
  exact h.1.countP_eq _
theorem place_le {s l0 L : List Int} (h : Ord s l0 L) {a b : Int} (ha : a ∈ L) (hb : b ∈ L) (hk : kf s a ≤ kf s b) : l0.findIdx (· == a) ≤ l0.findIdx (· == b) := by
  rw [place_ord h ha, place_ord h hb]
  refine List.countP_mono_left fun u _ hu => ?_
  simp only [decide_eq_true_eq] at *
  omega
theorem kf_setv (s : List Int) (v : Nat) (x : Int) (h : v < s.length) : kf (s.set v x) (v : Int) = - x * 4294967296 + v := by
  unfold kf
  rw [Int.toNat_natCast, getD_set s v v x h, if_pos rfl]
/-- A variable that is bumped comes before no fewer. -/
theorem place_bump {s l0 l2 L : List Int} {v : Nat} {y : Int} (hs : v < s.length) (hL : ∀ x, x ∈ L → 0 ≤ x) (h0 : Ord s l0 L) (h2 : Ord (bumpS s v y) l2 L) (hv : (v : Int) ∈ L) (hy : 0 ≤ y) : l2.findIdx (· == (v : Int)) ≤ l0.findIdx (· == (v : Int)) := by
  rw [place_ord h0 hv, place_ord h2 hv]
  refine List.countP_mono_left fun u hu hlt => ?_
  simp only [decide_eq_true_eq] at *
  have hvk : kf (bumpS s v y) (v : Int) ≤ kf s (v : Int) := by
    unfold bumpS
    rw [kf_setv s v _ hs]
    unfold kf
    rw [Int.toNat_natCast]
    omega
  by_cases he : u.toNat = v
  · have : u = (v : Int) := by have := hL u hu; omega
    subst this
    omega
  · have : kf (bumpS s v y) u = kf s u := kf_set s v _ he
    omega
theorem wo_bump {s l0 l2 L : List Int} {v : Nat} {y : Int} (hL : ∀ x, x ∈ L → 0 ≤ x) (hnd : L.Nodup) (h0 : Ord s l0 L) (h2 : Ord (bumpS s v y) l2 L) : wo (v : Int) l0 = wo (v : Int) l2 := by
  have n0 := h0.1.nodup_iff.2 hnd
  have n2 := h2.1.nodup_iff.2 hnd
  have k0 : Ord s (wo (v : Int) l0) (L.erase v) := ⟨by rw [wo_erase n0]; exact h0.1.erase _, h0.2.filter _⟩
  refine Ord.uniq k0 (l' := L.erase v) ⟨by rw [wo_erase n2]; exact h2.1.erase _, ?_⟩ (List.Perm.refl _)
  have hp : (wo (v : Int) l2).Pairwise fun a b => kf (bumpS s v y) a < kf (bumpS s v y) b := h2.2.filter _
  have hne : ∀ x, x ∈ wo (v : Int) l2 → kf (bumpS s v y) x = kf s x := fun x hx => by
    have h3 := List.mem_filter.1 hx
    have h4 := hL x (h2.1.mem_iff.1 h3.1)
    have h5 : x ≠ (v : Int) := by simpa using h3.2
    exact kf_set s v _ (by omega)
  exact List.Pairwise.imp_of_mem (fun {a b} ha hb h => by rw [hne a ha, hne b hb] at h; exact h) hp
/-- Halved: who comes first with unlike halved scores came first before. -/
theorem half_place {s l0 L : List Int} {v : Nat} {y : Int} {a b : Int} (h0 : Ord s l0 L) (hL : ∀ x, x ∈ L → 1 ≤ x ∧ x.toNat < s.length ∧ x < 4294967296) (ha : a ∈ L) (hb : b ∈ L) (hav : a ≠ (v : Int)) (hbv : b ≠ (v : Int))
    (hk : kf ((bumpS s v y).map hlf) a < kf ((bumpS s v y).map hlf) b) (hne : ((bumpS s v y).map hlf).getD a.toNat 0 ≠ ((bumpS s v y).map hlf).getD b.toNat 0) : l0.findIdx (· == a) ≤ l0.findIdx (· == b) := by
  refine place_le h0 ha hb ?_
  have ra := hL a ha
  have rb := hL b hb
  have hg : ∀ u : Int, 0 ≤ u → u.toNat < s.length → u ≠ (v : Int) → ((bumpS s v y).map hlf).getD u.toNat 0 = hlf (s.getD u.toNat 0) := fun u hu hul huv => by
    unfold bumpS
    have hne : ¬ v = u.toNat := by omega
    simp only [List.getD_eq_getElem?_getD, List.getElem?_map, List.getElem?_set, hne, if_false]
    rw [List.getElem?_eq_getElem hul]
    rfl
  unfold kf at hk ⊢
  rw [hg a (by omega) ra.2.1 hav, hg b (by omega) rb.2.1 hbv] at hk hne
  unfold hlf at hk hne
  generalize s.getD a.toNat 0 = p at *
  generalize s.getD b.toNat 0 = q at *
  omega
set_option maxRecDepth 100000 in
set_option maxHeartbeats 4000000 in
theorem bumps_any {w : World} (A : Option Addr) (n c : Nat) (sc : List Int) (hn : n = sc.length) (hr : RdB w.heap.size w A (LZ sc)) (v y : Int) (hmx : n ≤ 9223372036854775807) :
    Calls Try.prog 3 #[.slice A n c, .int .i64 v, .int .i64 y] w fun e w' => e = .returned (.bool true) ∧ Below w.heap.size w w' := by
  have HWK := Lib.hid (fun W => works_any W)
  by_cases h100 : 100 < n
  · have h1 : (100 : Int) < (n : Int) := by omega
    clear hn hr
    go_enter Try.func3, Try.ntmps3
    go_wp2_with fail
    refine (HWK.out w).mono ?_
    rintro e w1 ⟨rfl, hb⟩
    have HB := Lib.hid hb
    clear hb
    go_wp2
    go_ret
    exact ⟨rfl, HB.out⟩
  have h1 : ¬ (100 : Int) < (n : Int) := by omega
  have hn100 : n ≤ 100 := by omega
  have HN := Lib.hid (al_new n (by omega) w)
  have HR := Lib.hid hr
  have HSL := Lib.hid hn
  clear hn hr h100 hmx
  go_enter Try.func3, Try.ntmps3
  go_wp2_with fail
  refine HN.out.mono ?_
  rintro e w1 ⟨⟨g, rfl, hA⟩, hb1⟩
  have HA1 := Lib.hid hA
  have HB1 := Lib.hid hb1
  clear hA hb1 HN
  go_wp2_with fail
  go_loopw [9, 10, 11, 12] (fun i _ _ _ wr => ∃ (k : Nat) (s : List Int), k ≤ n ∧ i = .int .i64 k ∧ Al wr w.heap.size n g nox s (upTo k) ∧ Below w.heap.size w wr) (fun i _ _ _ _ => n - (intOf i).toNat)
  case atStart => exact ⟨0, _, Nat.zero_le _, rfl, HA1.out, HB1.out⟩
  case round =>
    clear HA1 HB1
    obtain ⟨k, s, hk, rfl, hA, hb⟩ := hrel
    have HA := Lib.hid hA
    have HB := Lib.hid hb
    clear hA hb
    by_cases hlt : k < n
    · obtain ⟨b, off, eA, _, ca⟩ := RdV.at_ ((HR.out.below HB.out).rd HB.out.size) (LZ_at (l := sc) (i := k) (by rw [← HSL.out]; exact hlt))
      have hlt1 : (k : Int) < (n : Int) := by omega
      subst eA
      generalize sc.getD k 0 = x at *
      have HBM := Lib.hid (fun z (hz : 0 ≤ z ∧ z ≤ MOST) => (show Calls Try.prog 10 #[.pointer (some ⟨g, 0, none⟩), .int .i64 ((k : Int) + 1), .int .i64 z] wr fun e w' => (∃ bb s2, e = .returned (.tuple #[.bool bb, .int .i64 0]) ∧ After wr w.heap.size n g nox s2 (upTo k) w') from
        (al_bump HA.out HB.out.size (fun _ e => e.elim) (k + 1) z ⟨by omega, by omega⟩ hz).mono fun e w' ⟨he, hw⟩ => ⟨_, _, he, hw⟩))
      have HP := Lib.hid (fun W s2 (hW : Al W w.heap.size n g nox s2 (upTo k)) (hB : w.heap.size ≤ W.heap.size) => (show Calls Try.prog 11 #[.pointer (some ⟨g, 0, none⟩), .int .i64 ((k : Int) + 1)] W fun e w' => e = .returned (.int .i64 0) ∧ After W w.heap.size n g nox s2 (upTo (k + 1)) w' from by
        have := al_push hW hB (fun _ e => e.elim) ((k : Int) + 1)
        rwa [(push_upTo hlt).1, (push_upTo hlt).2] at this))
      by_cases hx : x < 0 ∨ 1152921504606846976 < x
      · have HBK := Lib.hid (HBM.out (k : Int) ⟨by omega, by show (k : Int) ≤ 1152921504606846976; omega⟩)
        clear HBM
        by_cases hx1 : x < 0
        · clear hx
          go_wp2_with fail
          refine HBK.out.mono ?_
          rintro e w2 ⟨bb, s2, rfl, hA2, hb2, _⟩
          have HB2 := Lib.hid (HB.out.trans hb2)
          have HPP := Lib.hid (HP.out w2 s2 hA2 HB2.out.size)
          clear HBK hA2 hb2 HP
          go_wp2_with fail
          refine HPP.out.mono ?_
          rintro e w3 ⟨rfl, hA3, hb3, _⟩
          have HA3 := Lib.hid hA3
          have HB3 := Lib.hid (HB2.out.trans hb3)
          clear hA3 hb3 HPP
          go_wp2
          go_roundw
          case rel => exact ⟨k + 1, s2, by omega, by go_num, HA3.out, HB3.out⟩
          case measure => simp [intOf]; omega
        · have hx2 : 1152921504606846976 < x := hx.resolve_left hx1
          clear hx
          go_wp2_with fail
          refine HBK.out.mono ?_
          rintro e w2 ⟨bb, s2, rfl, hA2, hb2, _⟩
          have HB2 := Lib.hid (HB.out.trans hb2)
          have HPP := Lib.hid (HP.out w2 s2 hA2 HB2.out.size)
          clear HBK hA2 hb2 HP
          go_wp2_with fail
          refine HPP.out.mono ?_
          rintro e w3 ⟨rfl, hA3, hb3, _⟩
          have HA3 := Lib.hid hA3
          have HB3 := Lib.hid (HB2.out.trans hb3)
          clear hA3 hb3 HPP
          go_wp2
          go_roundw
          case rel => exact ⟨k + 1, s2, by omega, by go_num, HA3.out, HB3.out⟩
          case measure => simp [intOf]; omega
      · have hx1 : ¬ x < 0 := fun e => hx (.inl e)
        have hx2 : ¬ 1152921504606846976 < x := fun e => hx (.inr e)
        have HBK := Lib.hid (HBM.out x ⟨by omega, by show x ≤ 1152921504606846976; omega⟩)
        clear HBM hx
        go_wp2_with fail
        refine HBK.out.mono ?_
        rintro e w2 ⟨bb, s2, rfl, hA2, hb2, _⟩
        have HB2 := Lib.hid (HB.out.trans hb2)
        have HPP := Lib.hid (HP.out w2 s2 hA2 HB2.out.size)
        clear HBK hA2 hb2 HP
        go_wp2_with fail
        refine HPP.out.mono ?_
        rintro e w3 ⟨rfl, hA3, hb3, _⟩
        have HA3 := Lib.hid hA3
        have HB3 := Lib.hid (HB2.out.trans hb3)
        clear hA3 hb3 HPP
        go_wp2
        go_roundw
        case rel => exact ⟨k + 1, s2, by omega, by go_num, HA3.out, HB3.out⟩
        case measure => simp [intOf]; omega
    · have hlt1 : ¬ (k : Int) < (n : Int) := by omega
      have hkn : k = n := by omega
      have HA := Lib.hid (show Al wr w.heap.size n g nox s (upTo n) from hkn ▸ HA.out)
      obtain ⟨l0, hl0⟩ := HA.out.ord
      have hlen : l0.length = n := by rw [hl0.1.length_eq, upTo_len]
      have HL0 := Lib.hid hl0
      have HLEN := Lib.hid hlen
      have HO := Lib.hid (al_ord HA.out hl0 hlen)
      clear hkn hl0 hlen
      go_wp2_with fail
      refine HO.out.mono ?_
      rintro e w2 ⟨⟨A1, c1, rfl, hO1⟩, hb2⟩
      have HO1 := Lib.hid hO1
      have HB2 := Lib.hid (below_then HB.out hb2 HB.out.size)
      have HA2 := Lib.hid (show Al w2 w.heap.size n g (fun i => A1 = some ⟨i, 0, none⟩) s (upTo n) from (HA.out.add (fun i e => .inr (own_lt hO1 e).1)).below hb2)
      have HXW := Lib.hid (show ∀ i, A1 = some ⟨i, 0, none⟩ → i < w2.heap.size from fun i e => (own_lt hO1 e).2)
      clear hO1 hb2 HO HA HB HR
      by_cases hbad : isB n v = false ∨ y < 0 ∨ MOST < y
      · have HBB := Lib.hid (al_bad HA2.out v y hbad)
        clear hbad
        go_wp2_with fail
        refine HBB.out.mono ?_
        rintro e w3 ⟨rfl, rfl⟩
        have HO := Lib.hid (al_ord HA2.out HL0.out HLEN.out)
        go_wp2_with fail
        refine HO.out.mono ?_
        rintro e w3 ⟨⟨A3, c3, rfl, hO3⟩, hb3⟩
        have HB3 := Lib.hid (below_then HB2.out hb3 HB2.out.size)
        have HSM := Lib.hid (same_own (HO1.out.below hb3) hO3 (by omega))
        clear hO3 hb3 HO HO1 HA2 HB2 HXW
        go_wp2_with fail
        refine HSM.out.mono ?_
        rintro e w4 ⟨rfl, hb4⟩
        have HB4 := Lib.hid (below_then HB3.out hb4 HB3.out.size)
        have HWE := Lib.hid (HWK.out w4)
        clear hb4 HSM
        go_wp2_with fail
        refine HWE.out.mono ?_
        rintro e w5 ⟨rfl, hb5⟩
        have HB5 := Lib.hid (below_then HB4.out hb5 HB4.out.size)
        clear hb5
        go_wp2
        go_ret
        exact ⟨rfl, HB5.out⟩
      · have hin : 1 ≤ v ∧ v ≤ n := by
          by_cases hq : 1 ≤ v ∧ v ≤ n
          · exact hq
          · exact absurd (.inl (decide_eq_false hq)) hbad
        have hy : 0 ≤ y ∧ y ≤ MOST := ⟨Int.not_lt.1 fun e => hbad (.inr (.inl e)), Int.not_lt.1 fun e => hbad (.inr (.inr e))⟩
        obtain ⟨u, rfl⟩ : ∃ u : Nat, v = u := ⟨v.toNat, by omega⟩
        have HBM := Lib.hid (al_bump HA2.out HB2.out.size HXW.out u y ⟨by omega, by omega⟩ hy)
        have HY := Lib.hid hy
        have HU := Lib.hid hin
        have HF := Lib.hid (bumpF_dec s u y rfl)
        have HDM := Lib.hid (show decide (MOST < s.getD u 0 + y) = decide (1152921504606846976 < s.getD u 0 + y) from rfl)
        rw [HDM.out, HF.out] at HBM
        generalize decide (1152921504606846976 < s.getD u 0 + y) = hb at HBM
        have HSLN := Lib.hid HA2.out.sl
        have HMU := Lib.hid (show (u : Int) ∈ upTo n from (upTo_mem n _).2 hin)
        clear hbad hy hin HDM HF
        go_wp2_with fail
        refine HBM.out.mono ?_
        rintro e w3 ⟨rfl, hA3, hb3, hm3⟩
        have HB3 := Lib.hid (HB2.out.trans hb3)
        have HO3 := Lib.hid (HO1.out.mod hm3 (fun i _ e e2 => e2 e))
        have HA3 := Lib.hid hA3
        clear hA3 hb3 hm3 HBM HA2 HB2 HO1 HXW
        obtain ⟨l2, hl2⟩ := HA3.out.ord
        have hlen2 : l2.length = n := by rw [hl2.1.length_eq, upTo_len]
        have HL2 := Lib.hid hl2
        have HLEN2 := Lib.hid hlen2
        have HO := Lib.hid (al_ord HA3.out hl2 hlen2)
        clear hl2 hlen2
        go_wp2_with fail
        refine HO.out.mono ?_
        rintro e w4 ⟨⟨A4, c4, rfl, hO4⟩, hb4⟩
        have HB4 := Lib.hid (below_then HB3.out hb4 HB3.out.size)
        have HOA := Lib.hid hO4
        have HOB := Lib.hid (HO3.out.below hb4)
        have HA4 := Lib.hid (HA3.out.below hb4)
        clear hO4 hb4 HO HO3 HA3 HB3
        rcases hb with _ | _
        · have HL2 := Lib.hid (show Ord (bumpS s u y) l2 (upTo n) from HL2.out)
          have HPL := Lib.hid (show l2.findIdx (· == (u : Int)) ≤ l0.findIdx (· == (u : Int)) from place_bump (by have := HSLN.out; have := HU.out; omega) (fun x hx => by have := (upTo_mem n x).1 hx; omega) HL0.out HL2.out HMU.out HY.out.1)
          have HWB := Lib.hid (show wo (u : Int) l0 = wo (u : Int) l2 from wo_bump (fun x hx => by have := (upTo_mem n x).1 hx; omega) HA4.out.nd HL0.out HL2.out)
          have HPA := Lib.hid (place_any A4 n c4 l2 HLEN2.out.symm HOA.out.rd (by omega) (u : Int))
          have HPB := Lib.hid (place_any A1 n c1 l0 HLEN.out.symm HOB.out.rd (by omega) (u : Int))
          have hb1 : l2.findIdx (· == (u : Int)) ≤ 100 := by have h := List.findIdx_le_length (p := (· == (u : Int))) (xs := l2); have := HLEN2.out; omega
          have hb2 : l0.findIdx (· == (u : Int)) ≤ 100 := by have h := List.findIdx_le_length (p := (· == (u : Int))) (xs := l0); have := HLEN.out; omega
          generalize l2.findIdx (· == (u : Int)) = p2 at *
          generalize l0.findIdx (· == (u : Int)) = p0 at *
          have hpl : (p2 : Int) ≤ (p0 : Int) := by have := HPL.out; omega
          go_wp2_with fail
          refine HPA.out.mono ?_
          rintro e w5 ⟨rfl, rfl⟩
          go_wp2_with fail
          refine HPB.out.mono ?_
          rintro e w5 ⟨rfl, rfl⟩
          have HWO := Lib.hid (without_any A1 n c1 l0 HLEN.out.symm HOB.out.rd (by omega) (u : Int))
          clear HPA HPB
          go_wp2_with fail
          refine HWO.out.mono ?_
          rintro e w6 ⟨⟨A6, c6, rfl, hO6⟩, hb6⟩
          have HO6 := Lib.hid hO6
          have HB6 := Lib.hid (below_then HB4.out hb6 HB4.out.size)
          have HOA6 := Lib.hid (HOA.out.below hb6)
          have HWO2 := Lib.hid (without_any A4 n c4 l2 HLEN2.out.symm HOA6.out.rd (by omega) (u : Int))
          have hwl : (wo (u : Int) l0).length ≤ 1048576 := by have := wo_len (u : Int) l0; have := HLEN.out; omega
          clear hO6 hb6 HWO HOA HOB HB4
          go_wp2_with fail
          refine HWO2.out.mono ?_
          rintro e w7 ⟨⟨A7, c7, rfl, hO7⟩, hb7⟩
          rw [← HWB.out] at hO7 ⊢
          have HB7 := Lib.hid (below_then HB6.out hb7 HB6.out.size)
          have HSM := Lib.hid (same_own (HO6.out.below hb7) hO7 hwl)
          clear hO7 hb7 HWO2 HOA6 HB6 HO6
          go_wp2_with fail
          refine HSM.out.mono ?_
          rintro e w8 ⟨rfl, hb8⟩
          have HB8 := Lib.hid (below_then HB7.out hb8 HB7.out.size)
          have HWE := Lib.hid (HWK.out w8)
          clear hb8 HSM
          go_wp2_with fail
          refine HWE.out.mono ?_
          rintro e w9 ⟨rfl, hb9⟩
          have HB9 := Lib.hid (below_then HB8.out hb9 HB8.out.size)
          clear hb9
          go_wp2
          go_ret
          exact ⟨rfl, HB9.out⟩
        · have hL2 : Ord ((bumpS s u y).map hlf) l2 (upTo n) := HL2.out
          clear HL2
          have HL2 := Lib.hid hL2
          clear hL2
          have hA4 : Al w4 w.heap.size n g (fun i => A1 = some ⟨i, 0, none⟩) ((bumpS s u y).map hlf) (upTo n) := HA4.out
          clear HA4
          have HA4 := Lib.hid hA4
          clear hA4
          have HMV := Lib.hid (show ∀ x, x ∈ upTo n → 1 ≤ x ∧ x.toNat < s.length ∧ x < 4294967296 from fun x hx => by
            have := (upTo_mem n x).1 hx
            have := HSLN.out
            omega)
          have HHP := Lib.hid (fun a b ha hb hav hbv hk hne => half_place (v := u) (y := y) (a := a) (b := b) HL0.out HMV.out ha hb hav hbv hk hne)
          have HN1 := Lib.hid (show 1 ≤ n from by have := HU.out; omega)
          generalize (bumpS s u y).map hlf = s2 at *
          go_wp2_with fail
          go_loopw [17, 18, 19] (fun i _ _ wx => ∃ k : Nat, 1 ≤ k ∧ k ≤ n ∧ i = .int .i64 k ∧ Below w4.heap.size w4 wx) (fun i _ _ _ => n - (intOf i).toNat)
          case atStart => exact ⟨1, Nat.le_refl _, HN1.out, rfl, Below.refl _ _⟩
          case round =>
            obtain ⟨j, hj1, hjn, rfl, hbx⟩ := hrel
            have HBX := Lib.hid hbx
            have HAX := Lib.hid (HA4.out.below hbx)
            clear hbx
            by_cases hlt2 : j < n
            · have hlt3 : (j : Int) < (n : Int) := by omega
              have e1 : IntKind.i64.wrap ((j : Int) - 1) = (j : Int) - 1 := IntWalk.i64_in _ (by omega)
              have e2 : (j : Int) - 1 < (n : Int) := by omega
              have e3 : (0 : Int) ≤ (j : Int) - 1 := by omega
              obtain ⟨ga, rfl, _, hrow⟩ := (HOA.out.below HBX.out).row (by omega)
              have ca := hrow.cell (LZ_at (l := l2) (i := j - 1) (by have := HLEN2.out; omega))
              have cb := hrow.cell (LZ_at (l := l2) (i := j) (by have := HLEN2.out; omega))
              have HKF := Lib.hid (srt_lt HL2.out.2 (i := j - 1) (j := j) (by omega) (by have := HLEN2.out; omega))
              have HMA := Lib.hid (HL2.out.1.mem_iff.1 (getD_mem (l := l2) (i := j - 1) (by have := HLEN2.out; omega)))
              have HMB := Lib.hid (HL2.out.1.mem_iff.1 (getD_mem (l := l2) (i := j) (by have := HLEN2.out; omega)))
              clear hrow
              generalize l2.getD (j - 1) 0 = a at *
              generalize l2.getD j 0 = b at *
              go_wp2_with fail
              go_quiet (fail)
              have HBQ := Lib.hid (belowN HBX.out nq)
              have HAQ := Lib.hid (HAX.out.below (belowN (Below.refl _ _) nq))
              clear ca cb e1 e2 e3 HAX HBX
              by_cases hau : a = (u : Int)
              · go_wp2
                go_roundw
                case rel => exact ⟨j + 1, by omega, by omega, by go_num, HBQ.out⟩
                case measure => simp [intOf]; omega
              · by_cases hbu : b = (u : Int)
                · go_wp2
                  go_roundw
                  case rel => exact ⟨j + 1, by omega, by omega, by go_num, HBQ.out⟩
                  case measure => simp [intOf]; omega
                · have HSA := Lib.hid (al_score HAQ.out a)
                  have HSB := Lib.hid (al_score HAQ.out b)
                  have ra := (upTo_mem n a).1 HMA.out
                  have rb := (upTo_mem n b).1 HMB.out
                  rw [scI_in s2 ra] at HSA
                  rw [scI_in s2 rb] at HSB
                  clear ra rb
                  have HHX := Lib.hid (HHP.out a b HMA.out HMB.out hau hbu HKF.out)
                  generalize s2.getD a.toNat 0 = p at *
                  generalize s2.getD b.toNat 0 = q at *
                  go_wp2_with fail
                  refine HSA.out.mono ?_
                  rintro e wy ⟨rfl, rfl⟩
                  go_wp2_with fail
                  refine HSB.out.mono ?_
                  rintro e wy ⟨rfl, rfl⟩
                  clear HSA HSB
                  by_cases hpq : p = q
                  · subst hpq
                    go_wp2
                    go_roundw
                    case rel => exact ⟨j + 1, by omega, by omega, by go_num, HBQ.out⟩
                    case measure => simp [intOf]; omega
                  · have HLE := Lib.hid (HHX.out hpq)
                    have HPA := Lib.hid (place_any A1 n c1 l0 HLEN.out.symm (HOB.out.below HBQ.out).rd (by omega) a)
                    have HPB := Lib.hid (place_any A1 n c1 l0 HLEN.out.symm (HOB.out.below HBQ.out).rd (by omega) b)
                    have hb1 : l0.findIdx (· == a) ≤ 100 := by have h := List.findIdx_le_length (p := (· == a)) (xs := l0); have := HLEN.out; omega
                    have hb2 : l0.findIdx (· == b) ≤ 100 := by have h := List.findIdx_le_length (p := (· == b)) (xs := l0); have := HLEN.out; omega
                    generalize l0.findIdx (· == a) = pa at *
                    generalize l0.findIdx (· == b) = pb at *
                    have hpl : ¬ (pb : Int) < (pa : Int) := by have := HLE.out; omega
                    go_wp2_with fail
                    refine HPA.out.mono ?_
                    rintro e wy ⟨rfl, rfl⟩
                    go_wp2_with fail
                    refine HPB.out.mono ?_
                    rintro e wy ⟨rfl, rfl⟩
                    go_wp2
                    go_roundw
                    case rel => exact ⟨j + 1, by omega, by omega, by go_num, HBQ.out⟩
                    case measure => simp [intOf]; omega
            · have hlt3 : ¬ (j : Int) < (n : Int) := by omega
              have HBZ := Lib.hid (below_then HB4.out HBX.out HB4.out.size)
              have HWE := Lib.hid (HWK.out wr)
              go_wp2_with fail
              refine HWE.out.mono ?_
              rintro e w9 ⟨rfl, hb9⟩
              have HB9 := Lib.hid (below_then HBZ.out hb9 HBZ.out.size)
              clear hb9
              go_wp2
              go_ret
              exact ⟨rfl, HB9.out⟩
end Go.Proofs.Ytienomdennbkpaa.He
