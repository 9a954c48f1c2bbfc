/- HeapPops: its walk. Conditions: the memory. -/
import Derived.Test.YtienomdennbkpaaHx
import Derived.Test.YtienomdennbkpaaOpH
namespace Go.Proofs.Ytienomdennbkpaa.He
open Go.RowKit Go.Proofs.Ytienomdennbkpaa.Mem Go.Proofs.Ytienomdennbkpaa.Sl Go.Shelf
open Go.Proofs.Ytienomdennbkpaa.FnL (enc_at below_then)
open Go.Proofs.Ytienomdennbkpaa.OpH (OV OVOk OVAt Ops)
set_option linter.unusedVariables false

theorem Al.modX {w w' : World} {B N g : Nat} {X : Nat → Prop} {s l : List Int} (h : Al w B N g X s l) (hm : Mod X w w') : Al w' B N g X s l := by
  obtain ⟨q, m, h1, h2, h3, h4, h5⟩ := h
  exact ⟨q, m, h1.mod hm (fun i hi e => h5 i e hi), h2, h3, h4, h5⟩
theorem Al.sub {w : World} {B N g : Nat} {X Y : Nat → Prop} {s l : List Int} (h : Al w B N g X s l) (hY : ∀ i, Y i → X i) : Al w B N g Y s l := h.add fun i hi => .inl (hY i hi)
def lenOf : Value → Nat
  | .slice _ n _ => n
  | _ => 0
def largeB (n : Int) (k : Nat) : Bool := decide (100 < n ∧ n ≤ 1048576 ∨ 200 < k)
theorem large_any (n : Int) (A : Option Addr) (k c : Nat) (w : World) : Calls Try.prog 20 #[.int .i64 n, .slice A k c] w fun e w' => e = .returned (.bool (largeB n k)) ∧ w = w' := by
  have HE := Lib.hid (show largeB n k = decide (100 < n ∧ n ≤ 1048576 ∨ 200 < k) from rfl)
  by_cases h1 : 100 < n
  · by_cases h2 : n ≤ 1048576
    · have HF := Lib.hid (HE.out.trans (decide_eq_true (.inl ⟨h1, h2⟩)))
      go_enter Try.func20, Try.ntmps20
      go_wp2
      go_ret
      exact ⟨by rw [HF.out]; rfl, rfl⟩
    · by_cases h3 : 200 < k
      · have HF := Lib.hid (HE.out.trans (decide_eq_true (.inr h3)))
        have h4 : (200 : Int) < (k : Int) := by omega
        go_enter Try.func20, Try.ntmps20
        go_wp2
        go_ret
        exact ⟨by rw [HF.out]; rfl, rfl⟩
      · have HF := Lib.hid (HE.out.trans (decide_eq_false (fun e => e.elim (fun e => h2 e.2) h3)))
        have h4 : ¬ (200 : Int) < (k : Int) := by omega
        go_enter Try.func20, Try.ntmps20
        go_wp2
        go_ret
        exact ⟨by rw [HF.out]; rfl, rfl⟩
  · by_cases h3 : 200 < k
    · have HF := Lib.hid (HE.out.trans (decide_eq_true (.inr h3)))
      have h4 : (200 : Int) < (k : Int) := by omega
      go_enter Try.func20, Try.ntmps20
      go_wp2
      go_ret
      exact ⟨by rw [HF.out]; rfl, rfl⟩
    · have HF := Lib.hid (HE.out.trans (decide_eq_false (fun e => e.elim (fun e => h1 e.1) h3)))
      have h4 : ¬ (200 : Int) < (k : Int) := by omega
      go_enter Try.func20, Try.ntmps20
      go_wp2
      go_ret
      exact ⟨by rw [HF.out]; rfl, rfl⟩
/-- New, at whatever number. -/
theorem new_any (n : Int) (w : World) : Calls Try.prog 9 #[.int .i64 n] w fun e w' => (e = .returned (.tuple #[.pointer none, .int .i64 2]) ∧ w = w' ∧ (n < 0 ∨ 1048576 < n)) ∨ ∃ N : Nat, n = N ∧ N ≤ 1048576 ∧ AlNewR w N e w' := by
  by_cases h : n < 0 ∨ 1048576 < n
  · exact (new_bad n w h).mono fun e w' ⟨h1, h2⟩ => .inl ⟨h1, h2, h⟩
  · obtain ⟨N, rfl⟩ : ∃ N : Nat, n = N := ⟨n.toNat, by omega⟩
    exact (al_new N (by omega) w).mono fun e w' h1 => .inr ⟨N, rfl, by omega, h1⟩
set_option maxRecDepth 100000 in
set_option maxHeartbeats 4000000 in
theorem pops_any {w : World} (n : Int) (A : Option Addr) (k c : Nat) (ops : List OV) (hk : k = ops.length) (hr : Ops w.heap.size w A ops) (hok : ∀ o, o ∈ ops → OVOk o) (hmx : k ≤ 9223372036854775807) :
    Calls Try.prog 5 #[.int .i64 n, .slice A k c] w fun e w' => e = .returned (.bool true) ∧ Below w.heap.size w w' := by
  have HWK := Lib.hid (fun W => works_any W)
  have HLG := Lib.hid (large_any n A k c w)
  by_cases hlg : largeB n k = true
  · rw [hlg] at HLG
    clear hk hr hok hlg
    go_enter Try.func5, Try.ntmps5
    go_wp2_with fail
    refine HLG.out.mono ?_
    rintro e w1 ⟨rfl, rfl⟩
    go_wp2_with fail
    refine (HWK.out w).mono ?_
    rintro e w1 ⟨rfl, hb⟩
    have HB := Lib.hid hb
    clear hb
    go_wp2
    go_ret
    exact ⟨rfl, HB.out⟩
  rw [show largeB n k = false from Bool.not_eq_true _ ▸ hlg] at HLG
  have hk2 : k ≤ 200 := by
    by_cases h : 200 < k
    · exact absurd (decide_eq_true (.inr h)) hlg
    · omega
  have hn2 : n ≤ 100 ∨ 1048576 < n := by
    by_cases h : 100 < n ∧ n ≤ 1048576
    · exact absurd (decide_eq_true (.inl h)) hlg
    · omega
  have HN := Lib.hid (new_any n w)
  have HR := Lib.hid hr
  have HK := Lib.hid hk
  have HOK := Lib.hid hok
  clear hk hr hok hmx hlg
  go_enter Try.func5, Try.ntmps5
  go_wp2_with fail
  refine HLG.out.mono ?_
  rintro e w1 ⟨rfl, rfl⟩
  go_wp2_with fail
  refine HN.out.mono ?_
  rintro e w1 (⟨rfl, rfl, _⟩ | ⟨N, rfl, hN, ⟨g, rfl, hA⟩, hb1⟩)
  · clear HN HR
    go_wp2_with fail
    refine (HWK.out w).mono ?_
    rintro e w1 ⟨rfl, hb⟩
    have HB := Lib.hid hb
    clear hb
    go_wp2
    go_ret
    exact ⟨rfl, HB.out⟩
  have hN100 : N ≤ 100 := by omega
  have HA1 := Lib.hid hA
  have HB1 := Lib.hid hb1
  clear hA hb1 HN hn2 hN HLG
  go_wp2_with fail
  go_loopw [7] (fun i wr => ∃ (j : Nat) (s l : List Int), j ≤ k ∧ i = .int .i64 j ∧ Al wr w.heap.size N g nox s l ∧ Below w.heap.size w wr) (fun i _ => k - (intOf i).toNat)
  case atStart => exact ⟨0, _, _, Nat.zero_le _, rfl, HA1.out, HB1.out⟩
  case round =>
    clear HA1 HB1
    obtain ⟨j, s, l, hj, rfl, hA, hb⟩ := hrel
    have HA := Lib.hid hA
    have HB := Lib.hid hb
    clear hA hb
    by_cases hlt : j < k
    · have hlt1 : (j : Int) < (k : Int) := by omega
      have hjl : j < ops.length := by have := HK.out; omega
      obtain ⟨b, off, eA, hbB, c0, c1, c2⟩ := (HR.out.below HB.out).at_ hjl
      have ho := HOK.out _ (List.getElem_mem hjl)
      subst eA
      generalize ops[j]'hjl = x at *
      have ht0 : 0 ≤ x.k.tmod 8 := Int.tmod_nonneg _ ho.k0
      have ht1 : x.k.tmod 8 < 8 := Int.tmod_lt_of_pos _ (by decide)
      have HBA := Lib.hid (fun (o : Obj) => HB.out.alloc HB.out.size o)
      have HAA := Lib.hid (fun (o : Obj) => HA.out.below ((Below.refl _ wr).alloc (Nat.le_refl _) o))
      clear ho hjl hbB
      rcases (show x.k.tmod 8 = 0 ∨ x.k.tmod 8 = 1 ∨ x.k.tmod 8 = 2 ∨ x.k.tmod 8 = 3 ∨ x.k.tmod 8 = 4 ∨ x.k.tmod 8 = 5 ∨ x.k.tmod 8 = 6 ∨ x.k.tmod 8 = 7 by omega) with ht | ht | ht | ht | ht | ht | ht | ht
      · have HC := Lib.hid (al_push (HAA.out (.cells #[.int .u8 x.k, .int .i64 x.v, .int .i64 x.y] 44)) (HBA.out _).size (fun _ e => e.elim) x.v)
        clear ht0 ht1
        go_wp2_with fail
        refine HC.out.mono ?_
        rintro e w2 ⟨rfl, hA2, hb2, _⟩
        have HA2 := Lib.hid hA2
        have HB2 := Lib.hid ((HBA.out _).trans hb2)
        clear hA2 hb2 HC
        go_wp2
        go_roundw
        case rel => exact ⟨j + 1, _, _, by omega, by go_num, HA2.out, HB2.out⟩
        case measure => simp [intOf]; omega
      · have HC := Lib.hid (al_push (HAA.out (.cells #[.int .u8 x.k, .int .i64 x.v, .int .i64 x.y] 44)) (HBA.out _).size (fun _ e => e.elim) x.v)
        clear ht0 ht1
        go_wp2_with fail
        refine HC.out.mono ?_
        rintro e w2 ⟨rfl, hA2, hb2, _⟩
        have HA2 := Lib.hid hA2
        have HB2 := Lib.hid ((HBA.out _).trans hb2)
        clear hA2 hb2 HC
        go_wp2
        go_roundw
        case rel => exact ⟨j + 1, _, _, by omega, by go_num, HA2.out, HB2.out⟩
        case measure => simp [intOf]; omega
      · obtain ⟨l9, hl9⟩ := HA.out.ord
        have HC := Lib.hid (al_pop (HAA.out (.cells #[.int .u8 x.k, .int .i64 x.v, .int .i64 x.y] 44)) (HBA.out _).size (fun _ e => e.elim) hl9)
        clear hl9
        clear ht0 ht1
        go_wp2_with fail
        refine HC.out.mono ?_
        rintro e w2 ⟨rfl, hA2, hb2, _⟩
        have HA2 := Lib.hid hA2
        have HB2 := Lib.hid ((HBA.out _).trans hb2)
        clear hA2 hb2 HC
        go_wp2
        go_roundw
        case rel => exact ⟨j + 1, _, _, by omega, by go_num, HA2.out, HB2.out⟩
        case measure => simp [intOf]; omega
      · have HC := Lib.hid (al_rem (HAA.out (.cells #[.int .u8 x.k, .int .i64 x.v, .int .i64 x.y] 44)) (HBA.out _).size (fun _ e => e.elim) x.v)
        clear ht0 ht1
        go_wp2_with fail
        refine HC.out.mono ?_
        rintro e w2 ⟨rfl, hA2, hb2, _⟩
        have HA2 := Lib.hid hA2
        have HB2 := Lib.hid ((HBA.out _).trans hb2)
        clear hA2 hb2 HC
        go_wp2
        go_roundw
        case rel => exact ⟨j + 1, _, _, by omega, by go_num, HA2.out, HB2.out⟩
        case measure => simp [intOf]; omega
      · have HC := Lib.hid (al_bumpE (HAA.out (.cells #[.int .u8 x.k, .int .i64 x.v, .int .i64 x.y] 44)) (HBA.out _).size (fun _ e => e.elim) x.v x.y)
        clear ht0 ht1
        go_wp2_with fail
        refine HC.out.mono ?_
        rintro e w2 ⟨bb, xx, s2, rfl, hA2, hb2, _⟩
        have HA2 := Lib.hid hA2
        have HB2 := Lib.hid ((HBA.out _).trans hb2)
        clear hA2 hb2 HC
        go_wp2
        go_roundw
        case rel => exact ⟨j + 1, _, _, by omega, by go_num, HA2.out, HB2.out⟩
        case measure => simp [intOf]; omega
      · have HC := Lib.hid (al_bumpE (HAA.out (.cells #[.int .u8 x.k, .int .i64 x.v, .int .i64 x.y] 44)) (HBA.out _).size (fun _ e => e.elim) x.v x.y)
        clear ht0 ht1
        go_wp2_with fail
        refine HC.out.mono ?_
        rintro e w2 ⟨bb, xx, s2, rfl, hA2, hb2, _⟩
        have HA2 := Lib.hid hA2
        have HB2 := Lib.hid ((HBA.out _).trans hb2)
        clear hA2 hb2 HC
        go_wp2
        go_roundw
        case rel => exact ⟨j + 1, _, _, by omega, by go_num, HA2.out, HB2.out⟩
        case measure => simp [intOf]; omega
      · clear ht0 ht1
        go_wp2
        go_roundw
        case rel => exact ⟨j + 1, _, _, by omega, by go_num, HAA.out _, HBA.out _⟩
        case measure => simp [intOf]; omega
      · clear ht0 ht1
        go_wp2
        go_roundw
        case rel => exact ⟨j + 1, _, _, by omega, by go_num, HAA.out _, HBA.out _⟩
        case measure => simp [intOf]; omega
    · have hlt1 : ¬ (j : Int) < (k : Int) := by omega
      obtain ⟨l0, hl0⟩ := HA.out.ord
      have hA := HA.out.perm hl0.1.symm
      have hln := HA.out.len
      rw [← hl0.1.length_eq] at hln
      obtain ⟨m, hm⟩ : ∃ m, m = l0.length := ⟨_, rfl⟩
      have HAL := Lib.hid hA
      have HS0 := Lib.hid hl0.2
      have HND := Lib.hid hA.nd
      have HRG := Lib.hid hA.rg
      have HM := Lib.hid hm
      have hm100 : m ≤ 100 := by omega
      have HO := Lib.hid (al_ord hA ⟨List.Perm.refl _, hl0.2⟩ hm.symm)
      clear hA hl0 hln hm HA HR HK HOK
      go_wp2_with fail
      refine HO.out.mono ?_
      rintro e w2 ⟨⟨A1, c1, rfl, hO1⟩, hb2⟩
      have HO1 := Lib.hid (hO1.low HB.out.size)
      have HB2 := Lib.hid (below_then HB.out hb2 HB.out.size)
      have HA2 := Lib.hid (show Al w2 w.heap.size N g (fun i => A1 = some ⟨i, 0, none⟩ ∨ none = some (⟨i, 0, none⟩ : Addr)) s l0 from (HAL.out.add (fun i e => e.elim (fun e => .inr (own_lt hO1 e).1) (fun e => by cases e))).below hb2)
      have HSZ := Lib.hid (show Calls Try.prog 19 #[.pointer (some ⟨g, 0, none⟩)] w2 fun e w' => e = .returned (.int .i64 (m : Int)) ∧ w2 = w' from by have := al_size HA2.out; rwa [← HM.out] at this)
      clear hO1 hb2 HO HAL HB
      go_wp2_with fail
      refine HSZ.out.mono ?_
      rintro e w3 ⟨rfl, rfl⟩
      clear HSZ
      go_wp2_with fail
      obtain ⟨Z, hZ⟩ : ∃ Z, Z = w2.heap.size := ⟨_, rfl⟩
      have HXA := Lib.hid (show ∀ i, A1 = some ⟨i, 0, none⟩ → i < Z from fun i e => by rw [hZ]; exact (own_lt HO1.out e).2)
      have HWZ := Lib.hid (show w.heap.size ≤ Z by rw [hZ]; exact HB2.out.size)
      have HZ2 := Lib.hid (show Z ≤ w2.heap.size by rw [hZ]; exact Nat.le_refl _)
      clear hZ
      go_loopw [11] (fun a wx => ∃ (t c2 : Nat) (A2 : Option Addr), t ≤ m ∧ a = .slice A2 t c2 ∧ App.Own wx w.heap.size 3 A1 m c1 (LZ l0) ∧ App.Own wx Z 3 A2 t c2 (LZ (l0.take t)) ∧ Z ≤ wx.heap.size ∧ Al wx w.heap.size N g (fun i => A1 = some ⟨i, 0, none⟩ ∨ A2 = some ⟨i, 0, none⟩) s (l0.drop t) ∧ Below w.heap.size w wx) (fun a _ => m - (lenOf a))
      case atStart => exact ⟨0, 0, none, Nat.zero_le _, rfl, HO1.out, App.Own.nil _ _ _, HZ2.out, HA2.out, HB2.out⟩
      case round =>
        clear HO1 HA2 HB2 HZ2
        obtain ⟨t, c2, A2, ht, rfl, hO1, hO2, hZ, hA, hb⟩ := hrel
        have HZ := Lib.hid hZ
        clear hZ
        have HO1 := Lib.hid hO1
        have HO2 := Lib.hid hO2
        have HA := Lib.hid hA
        have HB := Lib.hid hb
        have HX := Lib.hid (show ∀ i, (A1 = some ⟨i, 0, none⟩ ∨ A2 = some ⟨i, 0, none⟩) → i < wr.heap.size from fun i e => e.elim (fun e => (own_lt hO1 e).2) (fun e => (own_lt hO2 e).2))
        have HPO := Lib.hid (al_pop hA hb.size HX.out (l' := l0.drop t) ⟨List.Perm.refl _, HS0.out.sublist (List.drop_sublist _ _)⟩)
        clear hO1 hO2 hA hb
        by_cases hlt : t < m
        · have htl : t < l0.length := by have := HM.out; omega
          have HDR := Lib.hid (show l0.drop t = l0.getD t 0 :: l0.drop (t + 1) from by
            rw [List.drop_eq_getElem_cons htl, List.getD_eq_getElem?_getD, List.getElem?_eq_getElem htl]; rfl)
          have HTK := Lib.hid (show l0.take (t + 1) = l0.take t ++ [l0.getD t 0] from by
            rw [List.take_add_one, List.getElem?_eq_getElem htl, List.getD_eq_getElem?_getD, List.getElem?_eq_getElem htl]; rfl)
          have HNM := Lib.hid (show ¬ l0.getD t 0 ∈ l0.drop (t + 1) from fun e => by
            have h1 := HA.out.nd
            rw [HDR.out, List.nodup_cons] at h1
            exact h1.1 e)
          have HKF := Lib.hid (fun (hp : 0 < t) => srt_lt HS0.out (i := t - 1) (j := t) (by omega) htl)
          have HVR := Lib.hid (HRG.out _ (getD_mem htl))
          rw [HDR.out] at HPO
          have HPO := Lib.hid (show Calls Try.prog 21 #[.pointer (some ⟨g, 0, none⟩)] wr fun e w' => e = .returned (.tuple #[.int .i64 (l0.getD t 0), .bool true]) ∧ After wr w.heap.size N g (fun i => A1 = some ⟨i, 0, none⟩ ∨ A2 = some ⟨i, 0, none⟩) s (l0.drop (t + 1)) w' from HPO.out.mono fun e w' ⟨h1, h2⟩ => ⟨by rw [h1]; simp, h2⟩)
          go_wp2_with fail
          refine HPO.out.mono ?_
          rintro e w4 ⟨rfl, hA4, hb4, hm4⟩
          have HA4 := Lib.hid hA4
          have HB4 := Lib.hid (HB.out.trans hb4)
          have HO14 := Lib.hid (HO1.out.mod hm4 (fun i _ e e2 => e2 (.inl e)))
          have HO24 := Lib.hid (HO2.out.mod hm4 (fun i _ e e2 => e2 (.inr e)))
          have hm4s := Lib.hid hm4.size
          have HHS := Lib.hid (al_has hA4 (l0.getD t 0))
          rw [decide_eq_false HNM.out] at HHS
          clear hA4 hb4 hm4 HPO HA HB HO1 HO2 HX
          have hlt1 : ¬ (m : Int) < (t : Int) := by omega
          have HZ4 := Lib.hid (show Z ≤ w4.heap.size from Nat.le_trans HZ.out hm4s.out)
          have HAPP := Lib.hid (fun w7 A3 c3 (hO3 : App.Own w7 Z 3 A3 (t + 1) c3 (LZ (l0.take t ++ [l0.getD t 0]))) (hg3 : (w4.alloc (.cells #[.int .i64 (l0.getD t 0)] 3)).grownBy w7 (Value.slice A2 t c2).ownBlock) (hA3 : ∀ i, A3 = some ⟨i, 0, none⟩ → A2 = some ⟨i, 0, none⟩ ∨ i = (w4.alloc (.cells #[.int .i64 (l0.getD t 0)] 3)).heap.size) =>
            (show App.Own w7 w.heap.size 3 A1 m c1 (LZ l0) ∧ App.Own w7 Z 3 A3 (t + 1) c3 (LZ (l0.take (t + 1))) ∧ Z ≤ w7.heap.size ∧ Al w7 w.heap.size N g (fun i => A1 = some ⟨i, 0, none⟩ ∨ A3 = some ⟨i, 0, none⟩) s (l0.drop (t + 1)) ∧ Below w.heap.size w w7 from by
              have hmd : Mod (fun i => some i = (Value.slice A2 t c2).ownBlock) w4 w7 := ((Mod.refl _ w4).alloc _).then_ (Mod.grown hg3)
              have hsz : Z ≤ (w4.alloc (.cells #[.int .i64 (l0.getD t 0)] 3)).heap.size := by rw [World.size_alloc]; have := HZ4.out; omega
              have hown : ∀ i, some i = (Value.slice A2 t c2).ownBlock → Z ≤ i ∧ A2 = some ⟨i, 0, none⟩ := fun i e => by
                obtain ⟨_, ⟨e2, _⟩ | ⟨g9, e2, h9, _⟩⟩ := HO24.out
                · rw [e2] at e; exact absurd (show some i = none from e) (by simp)
                · rw [e2] at e ⊢
                  have e3 : i = g9 := Option.some.inj e
                  subst e3
                  exact ⟨h9, rfl⟩
              refine ⟨HO14.out.mod hmd (fun i _ e e2 => by have := HXA.out i e; have := (hown i e2).1; omega), by rw [HTK.out]; exact hO3, Nat.le_trans HZ4.out hmd.size, ?_, HB4.out.trans ((((Below.refl w.heap.size w4).alloc HB4.out.size (.cells #[.int .i64 (l0.getD t 0)] 3))).trans ((grown_below (HO24.out.alloc _) hsz hg3).mono HWZ.out))⟩
              refine (HA4.out.add (Y := fun i => (A1 = some ⟨i, 0, none⟩ ∨ A3 = some ⟨i, 0, none⟩) ∨ A2 = some ⟨i, 0, none⟩) (fun i e => ?_)).modX (hmd.mono fun i _ e => .inr (hown i e).2) |>.sub (fun i e => .inl e)
              rcases e with (e | e) | e
              · exact .inl (.inl e)
              · rcases hA3 i e with e | e
                · exact .inl (.inr e)
                · right; rw [e, World.size_alloc]; omega
              · exact .inl (.inr e)))
          have HOA := Lib.hid (HO24.out.alloc (.cells #[.int .i64 (l0.getD t 0)] 3))
          have HC1 := Lib.hid (show (w4.alloc (.cells #[.int .i64 (l0.getD t 0)] 3)).cell? ⟨w4.heap.size, 0, none⟩ = some (.int .i64 (l0.getD t 0)) from (Blk.new _ _ _).cell 0)
          have HSZ := Lib.hid (show Z ≤ (w4.alloc (.cells #[.int .i64 (l0.getD t 0)] 3)).heap.size by rw [World.size_alloc]; have := HZ4.out; omega)
          have HSX := Lib.hid (al_score HA4.out (l0.getD t 0))
          rw [scI_in s HVR.out] at HSX
          have HPV := Lib.hid (fun (hp : 0 < t) => (show l0.getD (t - 1) 0 ∈ l0 from getD_mem (by omega)))
          have HLT := Lib.hid (show ∀ z, z = l0.getD t 0 → z = z from fun _ _ => rfl)
          generalize l0.getD t 0 = x at *
          clear HLT
          rcases Nat.eq_zero_or_pos t with ht0 | ht0
          · have ht1 : ¬ (0 : Int) < (t : Int) := by omega
            have HT0 := Lib.hid ht0
            clear ht0
            go_wp2_with fail
            refine HHS.out.mono ?_
            rintro e w5 ⟨rfl, rfl⟩
            go_wp2_with (at_builtin; refine wpAppOne rfl _ _ rfl Z A2 t c2 (l0.take t) rfl HOA.out w4.heap.size 1 x rfl HC1.out (by omega) HSZ.out ?_; intro A3 c3 w7 hO3 hg3 hA3; have HO3 := Lib.hid hO3; have HG3 := Lib.hid hg3; have HA3 := Lib.hid hA3; clear hO3 hg3 hA3)
            have HFIN := Lib.hid (show App.Own w7 w.heap.size 3 A1 m c1 (LZ l0) ∧ App.Own w7 Z 3 A3 (t + 1) c3 (LZ (l0.take (t + 1))) ∧ Z ≤ w7.heap.size ∧ Al w7 w.heap.size N g (fun i => A1 = some ⟨i, 0, none⟩ ∨ A3 = some ⟨i, 0, none⟩) s (l0.drop (t + 1)) ∧ Below w.heap.size w w7 from HAPP.out w7 A3 c3 HO3.out HG3.out HA3.out)
            clear HO3 HG3 HA3
            go_roundw
            case rel => exact ⟨t + 1, c3, A3, by omega, rfl, HFIN.out.1, HFIN.out.2.1, HFIN.out.2.2.1, HFIN.out.2.2.2.1, HFIN.out.2.2.2.2⟩
            case measure => simp [lenOf]; omega
          · have ht1 : (0 : Int) < (t : Int) := by omega
            have hzm := HPV.out ht0
            have HKZ := Lib.hid (HKF.out ht0)
            have HZR := Lib.hid (HRG.out _ hzm)
            obtain ⟨ga, rfl, _, hrow⟩ := HO24.out.row ht0
            have cz : w4.cell? ⟨ga, t - 1, none⟩ = some (.int .i64 (l0.getD (t - 1) 0)) := by
              have h1 := hrow.cell (LZ_at (l := l0.take t) (i := t - 1) (by rw [List.length_take]; omega))
              rw [show (l0.take t).getD (t - 1) 0 = l0.getD (t - 1) 0 by
                rw [List.getD_eq_getElem?_getD, List.getD_eq_getElem?_getD, List.getElem?_take, if_pos (by omega)]] at h1
              exact h1
            have HSZZ := Lib.hid (al_score HA4.out (l0.getD (t - 1) 0))
            rw [scI_in s HZR.out] at HSZZ
            have e1 : IntKind.i64.wrap ((t : Int) - 1) = (t : Int) - 1 := IntWalk.i64_in _ (by omega)
            have e2 : (t : Int) - 1 < (t : Int) := by omega
            have e3 : (0 : Int) ≤ (t : Int) - 1 := by omega
            have HKE := Lib.hid (show - (s.getD (l0.getD (t - 1) 0).toNat 0) * 4294967296 + l0.getD (t - 1) 0 < - (s.getD x.toNat 0) * 4294967296 + x from HKZ.out)
            have hzr := HZR.out
            have hxr := HVR.out
            clear hzm hrow HKZ HPV
            generalize l0.getD (t - 1) 0 = z at *
            generalize s.getD z.toNat 0 = p at *
            generalize s.getD x.toNat 0 = q at *
            have hpq : ¬ p < q := by have := HKE.out; omega
            have HPQ := Lib.hid (show p = q → ¬ x ≤ z from fun e => by have := HKE.out; omega)
            clear hzr hxr
            go_wp2_with fail
            refine HHS.out.mono ?_
            rintro e w5 ⟨rfl, rfl⟩
            go_wp2_with fail
            refine HSZZ.out.mono ?_
            rintro e w5 ⟨rfl, rfl⟩
            go_wp2_with fail
            refine HSX.out.mono ?_
            rintro e w5 ⟨rfl, rfl⟩
            go_wp2_with fail
            refine HSZZ.out.mono ?_
            rintro e w5 ⟨rfl, rfl⟩
            go_wp2_with fail
            refine HSX.out.mono ?_
            rintro e w5 ⟨rfl, rfl⟩
            clear cz e1 e2 e3
            by_cases hpe : p = q
            · have hxz := HPQ.out hpe
              subst hpe
              go_wp2_with (at_builtin; refine wpAppOne rfl _ _ rfl Z (some ⟨ga, 0, none⟩) t c2 (l0.take t) rfl HOA.out w4.heap.size 1 x rfl HC1.out (by omega) HSZ.out ?_; intro A3 c3 w7 hO3 hg3 hA3; have HO3 := Lib.hid hO3; have HG3 := Lib.hid hg3; have HA3 := Lib.hid hA3; clear hO3 hg3 hA3)
              have HFIN := Lib.hid (show App.Own w7 w.heap.size 3 A1 m c1 (LZ l0) ∧ App.Own w7 Z 3 A3 (t + 1) c3 (LZ (l0.take (t + 1))) ∧ Z ≤ w7.heap.size ∧ Al w7 w.heap.size N g (fun i => A1 = some ⟨i, 0, none⟩ ∨ A3 = some ⟨i, 0, none⟩) s (l0.drop (t + 1)) ∧ Below w.heap.size w w7 from HAPP.out w7 A3 c3 HO3.out HG3.out HA3.out)
              clear HO3 HG3 HA3
              go_roundw
              case rel => exact ⟨t + 1, c3, A3, by omega, rfl, HFIN.out.1, HFIN.out.2.1, HFIN.out.2.2.1, HFIN.out.2.2.2.1, HFIN.out.2.2.2.2⟩
              case measure => simp [lenOf]; omega
            · go_wp2_with (at_builtin; refine wpAppOne rfl _ _ rfl Z (some ⟨ga, 0, none⟩) t c2 (l0.take t) rfl HOA.out w4.heap.size 1 x rfl HC1.out (by omega) HSZ.out ?_; intro A3 c3 w7 hO3 hg3 hA3; have HO3 := Lib.hid hO3; have HG3 := Lib.hid hg3; have HA3 := Lib.hid hA3; clear hO3 hg3 hA3)
              have HFIN := Lib.hid (show App.Own w7 w.heap.size 3 A1 m c1 (LZ l0) ∧ App.Own w7 Z 3 A3 (t + 1) c3 (LZ (l0.take (t + 1))) ∧ Z ≤ w7.heap.size ∧ Al w7 w.heap.size N g (fun i => A1 = some ⟨i, 0, none⟩ ∨ A3 = some ⟨i, 0, none⟩) s (l0.drop (t + 1)) ∧ Below w.heap.size w w7 from HAPP.out w7 A3 c3 HO3.out HG3.out HA3.out)
              clear HO3 HG3 HA3
              go_roundw
              case rel => exact ⟨t + 1, c3, A3, by omega, rfl, HFIN.out.1, HFIN.out.2.1, HFIN.out.2.2.1, HFIN.out.2.2.2.1, HFIN.out.2.2.2.2⟩
              case measure => simp [lenOf]; omega
        · obtain rfl : t = m := by omega
          have HDN := Lib.hid (show l0.drop t = [] from List.drop_of_length_le (by have := HM.out; omega))
          have HTK := Lib.hid (show l0.take t = l0 from List.take_of_length_le (by have := HM.out; omega))
          rw [HDN.out] at HPO
          rw [HTK.out] at HO2
          have HPO := Lib.hid (show Calls Try.prog 21 #[.pointer (some ⟨g, 0, none⟩)] wr fun e w' => e = .returned (.tuple #[.int .i64 0, .bool false]) ∧ After wr w.heap.size N g (fun i => A1 = some ⟨i, 0, none⟩ ∨ A2 = some ⟨i, 0, none⟩) s [] w' from HPO.out)
          go_wp2_with fail
          refine HPO.out.mono ?_
          rintro e w4 ⟨rfl, hA4, hb4, hm4⟩
          have HA4 := Lib.hid hA4
          have HB4 := Lib.hid (HB.out.trans hb4)
          have HSM := Lib.hid (same_own (HO2.out.mod hm4 (fun i _ e e2 => e2 (.inr e))) (HO1.out.mod hm4 (fun i _ e e2 => e2 (.inl e))) (by omega))
          clear hA4 hb4 hm4 HPO HA HB HO1 HO2 HX
          go_wp2_with fail
          refine HSM.out.mono ?_
          rintro e w5 ⟨rfl, hb5⟩
          have HB5 := Lib.hid (below_then HB4.out hb5 HB4.out.size)
          have HSZ := Lib.hid (al_size (HA4.out.below hb5))
          have HSZ := Lib.hid (show Calls Try.prog 19 #[.pointer (some ⟨g, 0, none⟩)] w5 fun e w' => e = .returned (.int .i64 0) ∧ w5 = w' from HSZ.out)
          clear hb5 HSM HA4 HB4
          go_wp2_with fail
          refine HSZ.out.mono ?_
          rintro e w6 ⟨rfl, rfl⟩
          have HWE := Lib.hid (HWK.out w5)
          clear HSZ
          go_wp2_with fail
          refine HWE.out.mono ?_
          rintro e w6 ⟨rfl, hb6⟩
          have HB6 := Lib.hid (below_then HB5.out hb6 HB5.out.size)
          clear hb6
          go_wp2
          go_ret
          exact ⟨rfl, HB6.out⟩
end Go.Proofs.Ytienomdennbkpaa.He
