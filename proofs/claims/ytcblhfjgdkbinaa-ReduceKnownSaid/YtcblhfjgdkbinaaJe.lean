/- rotate, insertion sort over rows of records. Conditions: the memory. -/
import Derived.Test.YtcblhfjgdkbinaaJd
namespace Go.Proofs.Ytcblhfjgdkbinaa.Re
open Go.RowKit Go.Proofs.Ytcblhfjgdkbinaa.Mem Go.Proofs.Ytcblhfjgdkbinaa.Sl Go.Shelf Go.Sort
open Go.Proofs.Ytcblhfjgdkbinaa.FnL (enc_at below_then)
set_option linter.unusedVariables false

theorem pk : PK Try.prog 5 := ⟨by kernel_rfl, Try.underlying0, Try.isAgg0, Try.sizeOf0, Try.zeroValue0, Try.underlying3, Try.isAgg3, Try.sizeOf3, Try.zeroValue3, Try.underlying4, Try.isAgg4, Try.sizeOf4, Try.zeroValue4,
  Try.underlying23, Try.isAgg23, Try.sizeOf23, Try.zeroValue23, Try.underlying62, Try.isAgg62, Try.sizeOf62, Try.zeroValue62, Try.isAgg28, Try.sizeOf28⟩
/-- What a step over the row leaves: other blocks as they were, the row's [a, b) permuted. -/
def Pst (w : World) (g a b : Nat) (d : Array Rc) (R : Array Rc → Prop) (e : Ending) (w' : World) : Prop :=
  e = .returned (.tuple #[]) ∧ Mod (fun k => k = g) w w' ∧ ∃ d', HK w' g d' ∧ PermIn a b d d' ∧ R d'
theorem swapRange_any (d : Array Rc) (N c g a b n : Nat) (cv : Value) {w : World} (h : HK w g d) (hN : N = d.size) (hab : a + n ≤ b) (hb : b + n ≤ N) (hm : N ≤ 1000000) :
    Calls Try.prog 34 #[.slice (some ⟨g, 0, none⟩) N c, .int .i64 a, .int .i64 b, .int .i64 n, cv] w
      (Pst w g a (b + n) d fun d' => ∀ k, d'[k]! = if a ≤ k ∧ k < a + n then d[k + (b - a)]! else if b ≤ k ∧ k < b + n then d[k - (b - a)]! else d[k]!) := by
  subst hN
  exact swapRange_gen pk rfl Try.func34 d c g a b n cv h hab hb hm
set_option maxRecDepth 100000 in
set_option maxHeartbeats 2000000 in
theorem rotate_any (d : Array Rc) (N c g a m b : Nat) (cv : Value) {w : World} (h : HK w g d) (hN : N = d.size) (ham : a < m) (hmb : m < b) (hb : b ≤ N) (hm : N ≤ 1000000) :
    Calls Try.prog 33 #[.slice (some ⟨g, 0, none⟩) N c, .int .i64 a, .int .i64 m, .int .i64 b, cv] w
      (Pst w g a b d fun d' => ∀ k, d'[k]! = rotF d a m b k) := by
  have H := Lib.hid h
  have HN := Lib.hid hN
  clear h hN
  go_enter Try.func33, Try.ntmps33
  go_wp2_with fail
  go_loopw [10, 11] (fun i j wr => ∃ (x y : Nat) (dk : Array Rc), 0 < x ∧ 0 < y ∧ a + x ≤ m ∧ m + y ≤ b ∧ i = .int .i64 x ∧ j = .int .i64 y ∧ HK wr g dk ∧ Mod (fun j => j = g) w wr ∧ PermIn a b d dk ∧ ∀ k, rotF dk (m - x) m (m + y) k = rotF d a m b k) (fun i j _ => (intOf i).toNat + (intOf j).toNat)
  case atStart => exact ⟨m - a, b - m, d, by omega, by omega, by omega, by omega, by congr 1; omega, by congr 1; omega, H.out, Mod.refl _ _, permIn_refl _ _ _, fun k => by rw [show m - (m - a) = a by omega, show m + (b - m) = b by omega]⟩
  case round =>
    obtain ⟨x, y, dk, hx, hy, hax, hby, rfl, rfl, hH, hM, hP, hd⟩ := hrel
    have HH := Lib.hid hH
    have HM := Lib.hid hM
    have HP := Lib.hid hP
    have HD := Lib.hid hd
    have HS := Lib.hid (HN.out.trans hP.1.symm)
    clear hH hM hP hd
    by_cases hxy : x = y
    · subst hxy
      have HC := Lib.hid (swapRange_any dk N c g (m - x) m x cv HH.out HS.out (by omega) (by omega) hm)
      have ec : ((m - x : Nat) : Int) = (m : Int) - (x : Int) := by omega
      rw [ec] at HC
      go_wp2_with fail
      refine HC.out.mono ?_
      rintro e w2 ⟨rfl, hM2, d2, hH2, hP2, hd2⟩
      have HF := Lib.hid (show Pst w g a b d (fun d' => ∀ k, d'[k]! = rotF d a m b k) (.returned (.tuple #[])) w2 from
        ⟨rfl, HM.out.then_ hM2, d2, hH2, permIn_trans _ _ _ _ _ HP.out (permIn_mono dk d2 (m - x) (m + x) a b (by omega) (by omega) (by rw [← HS.out]; exact hb) hP2), fun k => by
          rw [← HD.out]
          refine rot_same (by omega) (by omega) (by omega) (fun k => ?_) k
          rw [hd2, show m - x + x = m by omega, show m + x - m = m - (m - x) by omega]⟩)
      clear hM2 hH2 hP2 hd2
      go_wp2
      go_end0
      exact HF.out
    · have hxyi : ¬ (x : Int) = (y : Int) := by omega
      by_cases hlt : y < x
      · have hlti : (y : Int) < (x : Int) := by omega
        have HC := Lib.hid (swapRange_any dk N c g (m - x) m y cv HH.out HS.out (by omega) (by omega) hm)
        have ec : ((m - x : Nat) : Int) = (m : Int) - (x : Int) := by omega
        rw [ec] at HC
        go_wp2_with fail
        refine HC.out.mono ?_
        rintro e w2 ⟨rfl, hM2, d2, hH2, hP2, hd2⟩
        have HH2 := Lib.hid hH2
        have HM2 := Lib.hid (HM.out.then_ hM2)
        have HP2 := Lib.hid (permIn_trans _ _ _ _ _ HP.out (permIn_mono dk d2 (m - x) (m + y) a b (by omega) (by omega) (by rw [← HS.out]; exact hb) hP2))
        have HD2 := Lib.hid (show ∀ k, rotF d2 (m - (x - y)) m (m + y) k = rotF d a m b k from fun k => by
          rw [← HD.out]
          have := rot_left (d := dk) (d' := d2) (s := m - x) (m := m) (e := m + y) (by omega) (by omega) (by omega) (fun k => by
            rw [hd2, show m + y - m = y by omega]) k
          rw [show m - (x - y) = m - x + (m + y - m) by omega]
          exact this)
        clear hM2 hH2 hP2 hd2 HC
        go_wp2
        go_roundw
        case rel => exact ⟨x - y, y, d2, by omega, hy, by omega, hby, by congr 1; omega, rfl, HH2.out, HM2.out, HP2.out, HD2.out⟩
        case measure => simp [intOf]; omega
      · have hlti : ¬ (y : Int) < (x : Int) := by omega
        have HC := Lib.hid (swapRange_any dk N c g (m - x) (m + y - x) x cv HH.out HS.out (by omega) (by omega) hm)
        have ec : ((m - x : Nat) : Int) = (m : Int) - (x : Int) := by omega
        have ec2 : ((m + y - x : Nat) : Int) = (m : Int) + (y : Int) - (x : Int) := by omega
        rw [ec, ec2] at HC
        clear ec ec2
        go_wp2_with fail
        refine HC.out.mono ?_
        rintro e w2 ⟨rfl, hM2, d2, hH2, hP2, hd2⟩
        have HH2 := Lib.hid hH2
        have HM2 := Lib.hid (HM.out.then_ hM2)
        have HP2 := Lib.hid (permIn_trans _ _ _ _ _ HP.out (permIn_mono dk d2 (m - x) (m + y - x + x) a b (by omega) (by omega) (by rw [← HS.out]; exact hb) hP2))
        have HD2 := Lib.hid (show ∀ k, rotF d2 (m - x) m (m + (y - x)) k = rotF d a m b k from fun k => by
          rw [← HD.out]
          have := rot_right (d := dk) (d' := d2) (s := m - x) (m := m) (e := m + y) (by omega) (by omega) (by omega) (fun k => by
            rw [hd2, show m - x + x = m by omega, show m + y - x + x = m + y by omega, show m + y - x - (m - x) = m + y - m by omega, show m + y - (m - (m - x)) = m + y - x by omega]) k
          rw [show m + (y - x) = m + y - (m - (m - x)) by omega]
          exact this)
        clear hM2 hH2 hP2 hd2 HC
        go_wp2
        go_roundw
        case rel => exact ⟨x, y - x, d2, hx, by omega, hax, by omega, rfl, by congr 1; omega, HH2.out, HM2.out, HP2.out, HD2.out⟩
        case measure => simp [intOf]; omega
end Go.Proofs.Ytcblhfjgdkbinaa.Re
