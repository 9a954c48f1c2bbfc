/- The stable sort over rows of records: symMerge at any length, stable, SortStableFunc. Conditions: the memory. -/
import Derived.Test.YtcblhfjgdkbinaaJg
namespace Go.Proofs.Ytcblhfjgdkbinaa.Re
open Go.RowKit Go.Proofs.Ytcblhfjgdkbinaa.Mem Go.Proofs.Ytcblhfjgdkbinaa.Sl Go.Shelf Go.Sort
open Go.Proofs.Ytcblhfjgdkbinaa.FnL (enc_at below_then)
set_option linter.unusedVariables false

theorem ent {P : Program} {f : FuncId} {fn : Func} {c : Code} (hf : P.funcs[f]? = some fn) (hname : (fn.name == "runtime.NumGoroutine") = false) (hb : fn.body = some c) (args : Array Value) (w : World) :
    (callFunc f args).run P w = .ok (.enter f args) w := by
  have h1 : fn.name ≠ "runtime.NumGoroutine" := by simpa using hname
  simp [callFunc, hf, h1, hb]
theorem cmpOk : CmpOk Try.prog := ⟨(ent Try.func19 (by kernel_rfl) rfl), fun x y W => cmp_any x y W⟩
theorem rotOk : RotOk Try.prog := ⟨(ent Try.func33 (by kernel_rfl) rfl), fun d N c g a m b w h hN ham hmb hb hm => rotate_any d N c g a m b cmpV h hN ham hmb hb hm⟩
theorem insertion_any (d : Array Rc) (N c g a b : Nat) {w : World} (h : HK w g d) (hN : N = d.size) (hab : a ≤ b) (hb : b ≤ N) (hm : N ≤ 1000000) :
    Calls Try.prog 29 #[.slice (some ⟨g, 0, none⟩) N c, .int .i64 a, .int .i64 b, cmpV] w (Pst w g a b d fun d' => SortedIn lt a b d') :=
  (insertion_gen pk rfl Try.func29 cmpOk d N c g a b h hN hab hb hm).mono fun e w' ⟨h1, h2, d', h3, h4, h5⟩ =>
    ⟨h1, h2, d', h3, h4, by rw [h5]; exact (insertionSort_holds swo d a b hab (by omega)).2⟩
theorem symOk (f : Nat) : SymOk Try.prog f := by
  induction f using Nat.strongRecOn with
  | ind f ih => exact symMerge_gen pk rfl Try.func30 cmpOk rotOk (ent Try.func30 (by kernel_rfl) rfl) f ih
theorem symMerge_any (d : Array Rc) (N c g a m b : Nat) {w : World} (h : HK w g d) (hN : N = d.size) (ham : a < m) (hmb : m < b) (hb : b ≤ N) (hm : N ≤ 1000000) (h1 : SortedIn lt a m d) (h2 : SortedIn lt m b d) :
    Calls Try.prog 30 #[.slice (some ⟨g, 0, none⟩) N c, .int .i64 a, .int .i64 m, .int .i64 b, cmpV] w (Pst w g a b d fun d' => SortedIn lt a b d') :=
  symOk (b - a) d N c g a m b w h hN ham hmb hb hm (Nat.le_refl _) h1 h2
set_option maxRecDepth 100000 in
set_option maxHeartbeats 4000000 in
theorem stable_any (d : Array Rc) (N c g : Nat) {w : World} (h : HK w g d) (hN : N = d.size) (hm : N ≤ 1000000) :
    Calls Try.prog 24 #[.slice (some ⟨g, 0, none⟩) N c, .int .i64 N, cmpV] w (Pst w g 0 N d fun d' => SortedIn lt 0 N d') := by
  have H := Lib.hid h
  have HN := Lib.hid hN
  clear h hN
  have mixed : Try.prog.follows .mixedOrders = true := pk.mixed
  go_enter Try.func24, Try.ntmps24
  go_wp2
  go_loopw [7, 8] (fun va vb wr => ∃ (a : Nat) (dk : Array Rc), va = .int .i64 a ∧ vb = .int .i64 ((a : Int) + 20) ∧ a ≤ N ∧ HK wr g dk ∧ Mod (fun j => j = g) w wr ∧ PermIn 0 N d dk ∧ Hid (BlI lt 20 N a dk)) (fun va _ _ => N - (intOf va).toNat)
  case atStart => exact ⟨0, d, rfl, rfl, Nat.zero_le _, H.out, Mod.refl _ _, permIn_refl _ _ _, BlI.start⟩
  case round =>
    obtain ⟨a, dk, rfl, rfl, haN, hH, hM, hP, HB⟩ := hrel
    have HH := Lib.hid hH
    have HM := Lib.hid hM
    have HP := Lib.hid hP
    have HS := Lib.hid (HN.out.trans hP.1.symm)
    clear hH hM hP
    by_cases hlt : a + 20 ≤ N
    · have hz : (a : Int) + 20 ≤ (N : Int) := by omega
      have HC := Lib.hid (insertion_any dk N c g a (a + 20) HH.out HS.out (by omega) hlt hm)
      rw [show ((a + 20 : Nat) : Int) = (a : Int) + 20 by omega] at HC
      go_wp2_with fail
      refine HC.out.mono ?_
      rintro _ w2 ⟨rfl, hM2, d2, hH2, hP2, hS2⟩
      have HH2 := Lib.hid hH2
      have HM2 := Lib.hid (HM.out.then_ hM2)
      have HP2 := Lib.hid (permIn_trans _ _ _ _ _ HP.out (permIn_mono dk d2 a (a + 20) 0 N (by omega) hlt (by rw [← HS.out]; exact Nat.le_refl _) hP2))
      have HB2 := Lib.hid (HB.out.step (by decide) hlt hP2 hS2)
      clear hM2 hH2 hP2 hS2 HC
      go_wp2
      go_roundw
      case rel => exact ⟨a + 20, d2, by first | rfl | go_num, by go_num, hlt, HH2.out, HM2.out, HP2.out, HB2.out⟩
      case measure => simp [intOf]; omega
    · have hz : ¬ (a : Int) + 20 ≤ (N : Int) := by omega
      have HC := Lib.hid (insertion_any dk N c g a N HH.out HS.out (by omega) (Nat.le_refl _) hm)
      go_wp2_with fail
      refine HC.out.mono ?_
      rintro _ w2 ⟨rfl, hM2, d2, hH2, hP2, hS2⟩
      have HH2 := Lib.hid hH2
      have HM2 := Lib.hid (HM.out.then_ hM2)
      have HP2 := Lib.hid (permIn_trans _ _ _ _ _ HP.out (permIn_mono dk d2 a N 0 N (by omega) (Nat.le_refl _) (by rw [← HS.out]; exact Nat.le_refl _) hP2))
      have HB2 := Lib.hid (HB.out.last (by decide) (by omega) hP2 hS2)
      clear hM2 hH2 hP2 hS2 HC HB HH HM HP HS hlt hz haN
      go_wp2
      go_loopw [6] (fun vs wr => ∃ (s : Nat) (dk : Array Rc), vs = .int .i64 s ∧ 0 < s ∧ s ≤ 2 * N + 40 ∧ HK wr g dk ∧ Mod (fun j => j = g) w wr ∧ PermIn 0 N d dk ∧ Hid (Bl lt s N dk)) (fun vs _ => 3 * N + 60 - (intOf vs).toNat)
      case atStart => exact ⟨20, d2, rfl, by omega, by omega, HH2.out, HM2.out, HP2.out, HB2.out⟩
      case round =>
        clear HH2 HM2 HP2 HB2
        obtain ⟨s, dk, rfl, hs0, hsN, hH, hM, hP, HB⟩ := hrel
        have HH := Lib.hid hH
        have HM := Lib.hid hM
        have HP := Lib.hid hP
        clear hH hM hP
        by_cases hlt : s < N
        · have hz : (s : Int) < (N : Int) := by omega
          go_wp2
          go_loopw [7, 8] (fun va vb wr => ∃ (a : Nat) (dk : Array Rc), va = .int .i64 a ∧ vb = .int .i64 ((a : Int) + 2 * (s : Int)) ∧ a ≤ N ∧ HK wr g dk ∧ Mod (fun j => j = g) w wr ∧ PermIn 0 N d dk ∧ Hid (BlW lt s N a dk)) (fun va _ _ => N - (intOf va).toNat)
          case atStart => exact ⟨0, dk, rfl, by go_num, Nat.zero_le _, HH.out, HM.out, HP.out, BlW.start HB.out⟩
          case round =>
            clear HH HM HP HB
            obtain ⟨a, dk, rfl, rfl, haN, hH, hM, hP, HB⟩ := hrel
            have HH := Lib.hid hH
            have HM := Lib.hid hM
            have HP := Lib.hid hP
            have HS := Lib.hid (HN.out.trans hP.1.symm)
            clear hH hM hP
            by_cases hlt2 : a + 2 * s ≤ N
            · have hz2 : (a : Int) + 2 * (s : Int) ≤ (N : Int) := by omega
              have HC := Lib.hid (symMerge_any dk N c g a (a + s) (a + 2 * s) HH.out HS.out (by omega) (by omega) hlt2 hm (HB.out.left (by omega)) (by have := HB.out.right; rwa [show min (a + s + s) N = a + 2 * s by omega] at this))
              rw [show ((a + s : Nat) : Int) = (a : Int) + (s : Int) by omega, show ((a + 2 * s : Nat) : Int) = (a : Int) + 2 * (s : Int) by omega] at HC
              go_wp2_with fail
              refine HC.out.mono ?_
              rintro _ w2 ⟨rfl, hM2, d2, hH2, hP2, hS2⟩
              have HH2 := Lib.hid hH2
              have HM2 := Lib.hid (HM.out.then_ hM2)
              have HP2 := Lib.hid (permIn_trans _ _ _ _ _ HP.out (permIn_mono dk d2 a (a + 2 * s) 0 N (by omega) hlt2 (by rw [← HS.out]; exact Nat.le_refl _) hP2))
              have HB2 := Lib.hid (HB.out.step hs0 hlt2 hP2 hS2)
              clear hM2 hH2 hP2 hS2 HC
              go_wp2
              go_roundw
              case rel => exact ⟨a + 2 * s, d2, by first | rfl | go_num, by go_num, hlt2, HH2.out, HM2.out, HP2.out, HB2.out⟩
              case measure => simp [intOf]; omega
            · have hz2 : ¬ (a : Int) + 2 * (s : Int) ≤ (N : Int) := by omega
              by_cases hlt3 : a + s < N
              · have hz3 : (a : Int) + (s : Int) < (N : Int) := by omega
                have HC := Lib.hid (symMerge_any dk N c g a (a + s) N HH.out HS.out (by omega) hlt3 (Nat.le_refl _) hm (HB.out.left (by omega)) (by have := HB.out.right; rwa [show min (a + s + s) N = N by omega] at this))
                rw [show ((a + s : Nat) : Int) = (a : Int) + (s : Int) by omega] at HC
                go_wp2_with fail
                refine HC.out.mono ?_
                rintro _ w2 ⟨rfl, hM2, d2, hH2, hP2, hS2⟩
                have HH2 := Lib.hid hH2
                have HM2 := Lib.hid (HM.out.then_ hM2)
                have HP2 := Lib.hid (permIn_trans _ _ _ _ _ HP.out (permIn_mono dk d2 a N 0 N (by omega) (Nat.le_refl _) (by rw [← HS.out]; exact Nat.le_refl _) hP2))
                have HB2 := Lib.hid (HB.out.last hs0 (by omega) hP2 hS2)
                clear hM2 hH2 hP2 hS2 HC
                go_wp2
                go_roundw
                case rel => exact ⟨2 * s, d2, by go_num, by omega, by omega, HH2.out, HM2.out, HP2.out, HB2.out⟩
                case measure => simp [intOf]; omega
              · have hz3 : ¬ (a : Int) + (s : Int) < (N : Int) := by omega
                have HB2 := Lib.hid (HB.out.last hs0 (by omega) (permIn_refl dk a N) (HB.out.short (by omega)))
                go_wp2
                go_roundw
                case rel => exact ⟨2 * s, dk, by go_num, by omega, by omega, HH.out, HM.out, HP.out, HB2.out⟩
                case measure => simp [intOf]; omega
        · have hz : ¬ (s : Int) < (N : Int) := by omega
          have HF := Lib.hid (HB.out.all (by omega))
          go_wp2
          go_end0
          exact ⟨rfl, HM.out, dk, HH.out, HP.out, HF.out⟩
set_option maxHeartbeats 1000000 in
theorem sort_any (d : Array Rc) (N c g : Nat) {w : World} (h : HK w g d) (hN : N = d.size) (hm : N ≤ 1000000) :
    Calls Try.prog 18 #[.slice (some ⟨g, 0, none⟩) N c, cmpV] w (Pst w g 0 N d fun d' => SortedIn lt 0 N d') := by
  have HC := Lib.hid (stable_any d N c g h hN hm)
  clear h hN
  go_enter Try.func18, Try.ntmps18
  go_wp2_with fail
  refine HC.out.mono ?_
  rintro _ w2 ⟨rfl, h2⟩
  have H2 := Lib.hid h2
  clear h2
  go_wp2
  go_end0
  exact ⟨rfl, H2.out⟩
end Go.Proofs.Ytcblhfjgdkbinaa.Re
