/- container/heap's down at a heap's row (printed by wip/tools/gen_hf.py). Conditions: the memory. -/
import Derived.Test.YtienomdennbkpaaHe
namespace Go.Proofs.Ytienomdennbkpaa.He
open Go.RowKit Go.Proofs.Ytienomdennbkpaa.Mem Go.Proofs.Ytienomdennbkpaa.Sl Go.Shelf
open Go.Proofs.Ytienomdennbkpaa.FnL (enc_at below_then)
set_option linter.unusedVariables false

def DownP (w : World) (B N : Nat) (q : HA) (l s : List Int) (lo n i : Nat) (w' : World) (b : Bool) : Prop :=
  ∃ l1, Went w B N q l s n w' l1 ∧ (b = false → l1 = l ∧ OutF n (vf s l) i) ∧ (b = true → HeapF lo n (vf s l1))
def DownR (w : World) (B N : Nat) (q : HA) (l s : List Int) (lo n i : Nat) (e : Ending) (w' : World) : Prop := ∃ b : Bool, e = .returned (.bool b) ∧ DownP w B N q l s lo n i w' b
theorem down_end {w w' : World} {B N : Nat} {q : HA} {l s l1 : List Int} {lo n i k : Nat} (hW : Went w B N q l s n w' l1) (hE : ExF lo n (vf s l1) k) (hO : OutF n (vf s l1) k) (h0 : k = i → l1 = l) (hI : k ≠ i → InF lo (vf s l1) k) (hik : i ≤ k) :
    DownP w B N q l s lo n i w' (decide (i < k)) := by
  refine ⟨l1, hW, fun hb => ?_, fun hb => ?_⟩
  · have := of_decide_eq_false hb
    obtain rfl : k = i := by omega
    obtain rfl := h0 rfl
    exact ⟨rfl, hO⟩
  · have := of_decide_eq_true hb
    exact heap_of hE hO (hI (by omega))
set_option maxRecDepth 100000 in
set_option maxHeartbeats 4000000 in
theorem down_any {w : World} {B N : Nat} {q : HA} {l pl s : List Int} (h : HR w B N q ⟨l, pl, s⟩) (lo i n : Nat) (hlo : lo ≤ i) (hi : i ≤ l.length) (hn : n ≤ l.length) (he : ExF lo n (vf s l) i) :
    Calls Try.prog 49 #[.iface 57 (.pointer (some ⟨q.g, 0, none⟩)), .int .i64 (i : Int), .int .i64 (n : Int)] w (DownR w B N q l s lo n i) := by
  have HW := Lib.hid (Went.refl h n)
  have HE := Lib.hid he
  have hl : l.length ≤ N := h.lenN
  have hN := h.hN
  have hml := m_less
  have hms := m_swap
  have HLO := Lib.hid hlo
  clear h he hlo
  go_enter Try.func49, Try.ntmps49
  go_wp2_with fail
  go_loopw [7, 8, 9, 10] (fun i1 _ _ _ wr => ∃ (k : Nat) (l1 : List Int), i ≤ k ∧ k ≤ l.length ∧ i1 = .int .i64 k ∧ Went w B N q l s n wr l1 ∧ ExF lo n (vf s l1) k ∧ (k = i → l1 = l) ∧ (k ≠ i → InF lo (vf s l1) k)) (fun i1 _ _ _ _ => l.length - (intOf i1).toNat)
  case atStart => exact ⟨i, l, Nat.le_refl _, hi, rfl, HW.out, HE.out, fun _ => rfl, fun e => absurd rfl e⟩
  case round =>
    clear HW HE
    obtain ⟨k, l1, hik, hkl, rfl, hW, hE, h0, hI⟩ := hrel
    have HW := Lib.hid hW
    have HE := Lib.hid hE
    have H0 := Lib.hid h0
    have HI := Lib.hid hI
    have hll := hW.len
    have HIK := Lib.hid hik
    clear hW hE h0 hI hik
    have hkk : (decide ((i : Int) < (k : Int))) = decide (i < k) := by simp
    obtain ⟨j1, hj1⟩ : ∃ j1 : Nat, j1 = 2 * k + 1 := ⟨_, rfl⟩
    have e1 : 2 * (k : Int) + 1 = (j1 : Int) := by omega
    have hjb : (j1 : Int) ≤ 4000000 := by omega
    have hjb0 : (0 : Int) ≤ (j1 : Int) := by omega
    have e4 : IntKind.i64.wrap (j1 : Int) = (j1 : Int) := IntWalk.i64_in _ (by omega)
    have e5 : IntKind.i64.wrap (2 * (k : Int) + 1) = (j1 : Int) := by rw [IntWalk.i64_in _ (by omega)]; omega
    by_cases hA : n ≤ j1
    · have hA1 : (n : Int) ≤ (j1 : Int) := by omega
      have HOUT := Lib.hid (show OutF n (vf s l1) k from fun c hc hk => by unfold Kid at hk; omega)
      clear hj1
      go_wp2
      go_ret
      exact ⟨decide (i < k), rfl, down_end HW.out HE.out HOUT.out H0.out HI.out HIK.out⟩
    have hA1 : ¬ (n : Int) ≤ (j1 : Int) := by omega
    have hA2 : ¬ (j1 : Int) < 0 := by omega
    obtain ⟨j2, hj2⟩ : ∃ j2 : Nat, j2 = j1 + 1 := ⟨_, rfl⟩
    have e2 : (j1 : Int) + 1 = (j2 : Int) := by omega
    have HK1 := Lib.hid (show Kid k j1 by unfold Kid; omega)
    have HK2 := Lib.hid (show Kid k j2 by unfold Kid; omega)
    have HLE := Lib.hid (fun W a c (ha : a < l1.length) (hc : c < l1.length) pl1 (h1 : HR W B N q ⟨l1, pl1, s⟩) => less_any h1 a c ha hc)
    have HSW := Lib.hid (fun W a c (ha : a < l1.length) (hc : c < l1.length) pl1 (h1 : HR W B N q ⟨l1, pl1, s⟩) => swap_any h1 a c ha hc)
    have hHALF := Lib.hid (show j1 = 2 * k + 1 ∧ j2 = j1 + 1 from ⟨hj1, hj2⟩)
    have hj1n : j1 < n := by omega
    by_cases hC : j2 < n
    · have hC1 : (j2 : Int) < (n : Int) := by omega
      by_cases hD : vf s l1 j2 < vf s l1 j1
      · have hb : decide (vf s l1 j2 < vf s l1 j1) = true := decide_eq_true hD
        have HKJ := Lib.hid (show Kid k j2 from HK2.out)
        have HMIN := Lib.hid (show ∀ c, c < n → Kid k c → vf s l1 j2 ≤ vf s l1 c from fun c hc hk => by
          have h3 : c = j1 ∨ c = j2 := by unfold Kid at hk; omega
          rcases h3 with rfl | rfl <;> omega)
        clear hj1 hj2 hD
        obtain ⟨pl1, hr⟩ := HW.out.hr
        have HL1 := Lib.hid (HLE.out _ j2 j1 (by omega) (by omega) _ hr)
        rw [show decide (vf (⟨l1, pl1, s⟩ : HM).s (⟨l1, pl1, s⟩ : HM).l j2 < vf (⟨l1, pl1, s⟩ : HM).s (⟨l1, pl1, s⟩ : HM).l j1) = true from hb] at HL1
        clear hr hb
        go_wp2_with fail
        refine HL1.out.mono ?_
        rintro e w3 ⟨rfl, nd3, rfl⟩
        have hWx := HW.out.drewN nd3
        try rw [World.drewN_drewN] at hWx
        have HW3 := Lib.hid hWx
        clear HL1 hWx
        by_cases hlt : vf s l1 j2 < vf s l1 k
        · have hb : decide (vf s l1 j2 < vf s l1 k) = true := decide_eq_true hlt
          obtain ⟨hE2, hI2⟩ := down_step HE.out (by have := HLO.out; have := HIK.out; omega) HKJ.out (by omega) HMIN.out hlt
          rw [← sw_vf s l1 (by omega) (by omega)] at hE2 hI2
          have HE2 := Lib.hid hE2
          have HI2 := Lib.hid hI2
          clear hE2 hI2 hlt
          obtain ⟨pl1, hr⟩ := HW3.out.hr
          have HL1 := Lib.hid (HLE.out _ j2 k (by omega) (by omega) _ hr)
          rw [show decide (vf (⟨l1, pl1, s⟩ : HM).s (⟨l1, pl1, s⟩ : HM).l j2 < vf (⟨l1, pl1, s⟩ : HM).s (⟨l1, pl1, s⟩ : HM).l k) = true from hb] at HL1
          clear hr hb
          go_wp2_with fail
          refine HL1.out.mono ?_
          rintro e w4 ⟨rfl, nd4, rfl⟩
          have hWx := HW3.out.drewN nd4
          try rw [World.drewN_drewN] at hWx
          have HW4 := Lib.hid hWx
          clear HL1 hWx
          obtain ⟨pl2, hr2⟩ := HW4.out.hr
          have HS1 := Lib.hid (HSW.out _ k j2 (by omega) (by omega) _ hr2)
          clear hr2 HLE HSW
          go_wp2_with fail
          refine HS1.out.mono ?_
          rintro e w5 ⟨rfl, hr3, hm3⟩
          have HW5 := Lib.hid (HW4.out.step (i := k) (j := j2) (by omega) (by omega) hn hr3 hm3)
          clear hr3 hm3 HS1
          go_wp2
          go_roundw
          case rel => exact ⟨j2, _, by have := HIK.out; omega, by omega, rfl, HW5.out, HE2.out, fun e => by have := HIK.out; omega, fun _ => HI2.out⟩
          case measure => simp [intOf]; omega
        · have hb : decide (vf s l1 j2 < vf s l1 k) = false := decide_eq_false hlt
          have HOUT := Lib.hid (show OutF n (vf s l1) k from fun c hc hk => by have := HMIN.out c hc hk; omega)
          obtain ⟨pl1, hr⟩ := HW3.out.hr
          have HL1 := Lib.hid (HLE.out _ j2 k (by omega) (by omega) _ hr)
          rw [show decide (vf (⟨l1, pl1, s⟩ : HM).s (⟨l1, pl1, s⟩ : HM).l j2 < vf (⟨l1, pl1, s⟩ : HM).s (⟨l1, pl1, s⟩ : HM).l k) = false from hb] at HL1
          clear hr hb
          go_wp2_with fail
          refine HL1.out.mono ?_
          rintro e w4 ⟨rfl, nd4, rfl⟩
          have hWx := HW3.out.drewN nd4
          try rw [World.drewN_drewN] at hWx
          have HW4 := Lib.hid hWx
          clear HL1 hWx
          go_wp2
          go_ret
          exact ⟨decide (i < k), rfl, down_end HW4.out HE.out HOUT.out H0.out HI.out HIK.out⟩
      · have hb : decide (vf s l1 j2 < vf s l1 j1) = false := decide_eq_false hD
        have HKJ := Lib.hid (show Kid k j1 from HK1.out)
        have HMIN := Lib.hid (show ∀ c, c < n → Kid k c → vf s l1 j1 ≤ vf s l1 c from fun c hc hk => by
          have h3 : c = j1 ∨ c = j2 := by unfold Kid at hk; omega
          rcases h3 with rfl | rfl <;> omega)
        clear hj1 hj2 hD
        obtain ⟨pl1, hr⟩ := HW.out.hr
        have HL1 := Lib.hid (HLE.out _ j2 j1 (by omega) (by omega) _ hr)
        rw [show decide (vf (⟨l1, pl1, s⟩ : HM).s (⟨l1, pl1, s⟩ : HM).l j2 < vf (⟨l1, pl1, s⟩ : HM).s (⟨l1, pl1, s⟩ : HM).l j1) = false from hb] at HL1
        clear hr hb
        go_wp2_with fail
        refine HL1.out.mono ?_
        rintro e w3 ⟨rfl, nd3, rfl⟩
        have hWx := HW.out.drewN nd3
        try rw [World.drewN_drewN] at hWx
        have HW3 := Lib.hid hWx
        clear HL1 hWx
        by_cases hlt : vf s l1 j1 < vf s l1 k
        · have hb : decide (vf s l1 j1 < vf s l1 k) = true := decide_eq_true hlt
          obtain ⟨hE2, hI2⟩ := down_step HE.out (by have := HLO.out; have := HIK.out; omega) HKJ.out (by omega) HMIN.out hlt
          rw [← sw_vf s l1 (by omega) (by omega)] at hE2 hI2
          have HE2 := Lib.hid hE2
          have HI2 := Lib.hid hI2
          clear hE2 hI2 hlt
          obtain ⟨pl1, hr⟩ := HW3.out.hr
          have HL1 := Lib.hid (HLE.out _ j1 k (by omega) (by omega) _ hr)
          rw [show decide (vf (⟨l1, pl1, s⟩ : HM).s (⟨l1, pl1, s⟩ : HM).l j1 < vf (⟨l1, pl1, s⟩ : HM).s (⟨l1, pl1, s⟩ : HM).l k) = true from hb] at HL1
          clear hr hb
          go_wp2_with fail
          refine HL1.out.mono ?_
          rintro e w4 ⟨rfl, nd4, rfl⟩
          have hWx := HW3.out.drewN nd4
          try rw [World.drewN_drewN] at hWx
          have HW4 := Lib.hid hWx
          clear HL1 hWx
          obtain ⟨pl2, hr2⟩ := HW4.out.hr
          have HS1 := Lib.hid (HSW.out _ k j1 (by omega) (by omega) _ hr2)
          clear hr2 HLE HSW
          go_wp2_with fail
          refine HS1.out.mono ?_
          rintro e w5 ⟨rfl, hr3, hm3⟩
          have HW5 := Lib.hid (HW4.out.step (i := k) (j := j1) (by omega) (by omega) hn hr3 hm3)
          clear hr3 hm3 HS1
          go_wp2
          go_roundw
          case rel => exact ⟨j1, _, by have := HIK.out; omega, by omega, rfl, HW5.out, HE2.out, fun e => by have := HIK.out; omega, fun _ => HI2.out⟩
          case measure => simp [intOf]; omega
        · have hb : decide (vf s l1 j1 < vf s l1 k) = false := decide_eq_false hlt
          have HOUT := Lib.hid (show OutF n (vf s l1) k from fun c hc hk => by have := HMIN.out c hc hk; omega)
          obtain ⟨pl1, hr⟩ := HW3.out.hr
          have HL1 := Lib.hid (HLE.out _ j1 k (by omega) (by omega) _ hr)
          rw [show decide (vf (⟨l1, pl1, s⟩ : HM).s (⟨l1, pl1, s⟩ : HM).l j1 < vf (⟨l1, pl1, s⟩ : HM).s (⟨l1, pl1, s⟩ : HM).l k) = false from hb] at HL1
          clear hr hb
          go_wp2_with fail
          refine HL1.out.mono ?_
          rintro e w4 ⟨rfl, nd4, rfl⟩
          have hWx := HW3.out.drewN nd4
          try rw [World.drewN_drewN] at hWx
          have HW4 := Lib.hid hWx
          clear HL1 hWx
          go_wp2
          go_ret
          exact ⟨decide (i < k), rfl, down_end HW4.out HE.out HOUT.out H0.out HI.out HIK.out⟩
    · have hC1 : ¬ (j2 : Int) < (n : Int) := by omega
      have HKJ := Lib.hid (show Kid k j1 from HK1.out)
      have HMIN := Lib.hid (show ∀ c, c < n → Kid k c → vf s l1 j1 ≤ vf s l1 c from fun c hc hk => by
        have h3 : c = j1 := by unfold Kid at hk; omega
        rw [h3]; exact Int.le_refl _)
      clear hj1 hj2
      by_cases hlt : vf s l1 j1 < vf s l1 k
      · have hb : decide (vf s l1 j1 < vf s l1 k) = true := decide_eq_true hlt
        obtain ⟨hE2, hI2⟩ := down_step HE.out (by have := HLO.out; have := HIK.out; omega) HKJ.out (by omega) HMIN.out hlt
        rw [← sw_vf s l1 (by omega) (by omega)] at hE2 hI2
        have HE2 := Lib.hid hE2
        have HI2 := Lib.hid hI2
        clear hE2 hI2 hlt
        obtain ⟨pl1, hr⟩ := HW.out.hr
        have HL1 := Lib.hid (HLE.out _ j1 k (by omega) (by omega) _ hr)
        rw [show decide (vf (⟨l1, pl1, s⟩ : HM).s (⟨l1, pl1, s⟩ : HM).l j1 < vf (⟨l1, pl1, s⟩ : HM).s (⟨l1, pl1, s⟩ : HM).l k) = true from hb] at HL1
        clear hr hb
        go_wp2_with fail
        refine HL1.out.mono ?_
        rintro e w4 ⟨rfl, nd4, rfl⟩
        have hWx := HW.out.drewN nd4
        try rw [World.drewN_drewN] at hWx
        have HW4 := Lib.hid hWx
        clear HL1 hWx
        obtain ⟨pl2, hr2⟩ := HW4.out.hr
        have HS1 := Lib.hid (HSW.out _ k j1 (by omega) (by omega) _ hr2)
        clear hr2 HLE HSW
        go_wp2_with fail
        refine HS1.out.mono ?_
        rintro e w5 ⟨rfl, hr3, hm3⟩
        have HW5 := Lib.hid (HW4.out.step (i := k) (j := j1) (by omega) (by omega) hn hr3 hm3)
        clear hr3 hm3 HS1
        go_wp2
        go_roundw
        case rel => exact ⟨j1, _, by have := HIK.out; omega, by omega, rfl, HW5.out, HE2.out, fun e => by have := HIK.out; omega, fun _ => HI2.out⟩
        case measure => simp [intOf]; omega
      · have hb : decide (vf s l1 j1 < vf s l1 k) = false := decide_eq_false hlt
        have HOUT := Lib.hid (show OutF n (vf s l1) k from fun c hc hk => by have := HMIN.out c hc hk; omega)
        obtain ⟨pl1, hr⟩ := HW.out.hr
        have HL1 := Lib.hid (HLE.out _ j1 k (by omega) (by omega) _ hr)
        rw [show decide (vf (⟨l1, pl1, s⟩ : HM).s (⟨l1, pl1, s⟩ : HM).l j1 < vf (⟨l1, pl1, s⟩ : HM).s (⟨l1, pl1, s⟩ : HM).l k) = false from hb] at HL1
        clear hr hb
        go_wp2_with fail
        refine HL1.out.mono ?_
        rintro e w4 ⟨rfl, nd4, rfl⟩
        have hWx := HW.out.drewN nd4
        try rw [World.drewN_drewN] at hWx
        have HW4 := Lib.hid hWx
        clear HL1 hWx
        go_wp2
        go_ret
        exact ⟨decide (i < k), rfl, down_end HW4.out HE.out HOUT.out H0.out HI.out HIK.out⟩
end Go.Proofs.Ytienomdennbkpaa.He
