/- truth's masks: holds; slices.IndexFunc and ContainsFunc over masks; the formula's holds. -/
import Derived.Test.YtfpohiflpemkjaaTrP
namespace Go.Proofs.Ytfpohiflpemkjaa.Tr
open Go.RowKit Go.Proofs.Ytfpohiflpemkjaa.Mem Go.Proofs.Ytfpohiflpemkjaa.Sl Go.Proofs.Ytfpohiflpemkjaa.Cl Go.Proofs.Ytfpohiflpemkjaa.Mo Go.Shelf
open Go.Proofs.Ytfpohiflpemkjaa.FnL (Pred enc_at below_then firstAt firstAt_any)
set_option linter.unusedVariables false

def Sm (m : Nat × Nat) : Prop := m.1 < 4294967296 ∧ m.2 < 4294967296
theorem mholds_any (m : Nat × Nat) (hm : Sm m) (k : Nat) (hk : k < 4294967296) (w : World) :
    Calls Try.prog 52 #[mkV m, .int .u32 k] w fun e w' => e = .returned (.bool (holdsM m k)) ∧ Below w.heap.size w w' := by
  obtain ⟨p, q⟩ := m
  obtain ⟨h1, h2⟩ := hm
  dsimp only at h1 h2
  have ha : bits .and .u32 (p : Int) (k : Int) = ((p &&& k : Nat) : Int) := u32_and_nat p k h1 hk
  have hb : bits .andNot .u32 (q : Int) (k : Int) = ((q &&& (4294967295 - k) : Nat) : Int) := u32_andNot_nat q k h2 hk
  have l1 : p &&& k < 4294967296 := Nat.lt_of_le_of_lt Nat.and_le_left h1
  have l2 : q &&& (4294967295 - k) < 4294967296 := Nat.lt_of_le_of_lt Nat.and_le_left h2
  have HE := Lib.hid (show holdsM (p, q) k = ((p &&& k ||| q &&& (4294967295 - k)) != 0) from rfl)
  generalize p &&& k = x at *
  generalize q &&& (4294967295 - k) = y at *
  have hc : bits .or .u32 (x : Int) (y : Int) = ((x ||| y : Nat) : Int) := u32_or_nat x y l1 l2
  generalize x ||| y = z at *
  clear h1 h2 l1 l2 hk
  unfold mkV
  dsimp only
  by_cases hz : z = 0
  · have HF := Lib.hid (show holdsM (p, q) k = false by rw [HE.out, hz]; rfl)
    subst hz
    go_enter Try.func52, Try.ntmps52
    go_wp2
    go_ret
    exact ⟨by rw [HF.out]; rfl, (Below.refl _ _).alloc (Nat.le_refl _) _⟩
  · have HF := Lib.hid (show holdsM (p, q) k = true by rw [HE.out]; simpa using hz)
    have hz1 : ((z : Int) == 0) = false := by simpa using hz
    clear hz
    go_enter Try.func52, Try.ntmps52
    go_wp2
    go_ret
    exact ⟨by rw [HF.out]; first | rfl | simp_all, (Below.refl _ _).alloc (Nat.le_refl _) _⟩
/-- A row of masks. -/
structure MsOk (B : Nat) (w : World) (a : Option Addr) (n : Nat) (ms : List (Nat × Nat)) : Prop where
  ln : n = ms.length
  mx : n ≤ 2000000
  rd : 0 < ms.length → ∃ b off, a = some ⟨b, off, none⟩ ∧ b < B ∧ ∀ i m, ms[i]? = some m → w.cell? ⟨b, off + i * 2, none⟩ = some (.int .u32 m.1) ∧ w.cell? ⟨b, off + i * 2 + 1, none⟩ = some (.int .u32 m.2)
  sm : ∀ m, m ∈ ms → Sm m
theorem MsOk.below {B : Nat} {w w' : World} {a : Option Addr} {n : Nat} {ms : List (Nat × Nat)} (h : MsOk B w a n ms) (hb : Below B w w') : MsOk B w' a n ms :=
  ⟨h.ln, h.mx, fun hp => by
    obtain ⟨b, off, e, hx, hc⟩ := h.rd hp
    exact ⟨b, off, e, hx, fun i x hi => ⟨(hb.cell (p := ⟨b, off + i * 2, none⟩) hx).trans (hc i x hi).1, (hb.cell (p := ⟨b, off + i * 2 + 1, none⟩) hx).trans (hc i x hi).2⟩⟩, h.sm⟩
theorem MsOk.up {B B' : Nat} {w : World} {a : Option Addr} {n : Nat} {ms : List (Nat × Nat)} (h : MsOk B w a n ms) (hB : B ≤ B') : MsOk B' w a n ms :=
  ⟨h.ln, h.mx, fun hp => by
    obtain ⟨b, off, e, hx, hc⟩ := h.rd hp
    exact ⟨b, off, e, by omega, hc⟩, h.sm⟩
theorem MsOk.at_ {B : Nat} {w : World} {a : Option Addr} {n : Nat} {ms : List (Nat × Nat)} (h : MsOk B w a n ms) {k : Nat} (hk : k < ms.length) :
    ∃ b off, a = some ⟨b, off, none⟩ ∧ b < B ∧ w.cell? ⟨b, off + k * 2, none⟩ = some (.int .u32 (ms[k]'hk).1) ∧ w.cell? ⟨b, off + k * 2 + 1, none⟩ = some (.int .u32 (ms[k]'hk).2) := by
  obtain ⟨b, off, e, hx, hc⟩ := h.rd (by omega)
  exact ⟨b, off, e, hx, (hc k _ (List.getElem?_eq_getElem hk)).1, (hc k _ (List.getElem?_eq_getElem hk)).2⟩
theorem indexFunc_ms {B : Nat} (a : Option Addr) (cap f : Nat) (lb : Array Value) (p : Nat × Nat → Bool) (l : List (Nat × Nat)) (n : Nat) (w : World) (hB : B ≤ w.heap.size) (hr : MsOk B w a n l) (hp : Pred mkV f lb p l w) :
    Calls Try.prog 65 #[.slice a n cap, .func (.func f) #[] lb] w fun e w' => e = .returned (.int .i64 (firstAt p l 0)) ∧ Below w.heap.size w w' := by
  have HR := Lib.hid hr
  have HP := Lib.hid hp
  have HN := Lib.hid hr.ln
  have HS := Lib.hid hB
  have hm := hr.mx
  clear hr hp hB
  go_enter Try.func65, Try.ntmps65
  go_wp2_with fail
  go_loopw [5, 8] (fun x i wr => ∃ k : Nat, k ≤ n ∧ i = .int .i64 k ∧ firstAt p l 0 = firstAt p (l.drop k) k ∧ Below w.heap.size w wr) (fun _ i _ => n - (intOf i).toNat)
  case atStart => exact ⟨0, Nat.zero_le _, rfl, rfl, Below.refl _ _⟩
  case round =>
    obtain ⟨k, hk, rfl, hf, hB⟩ := hrel
    have HF := Lib.hid hf
    have HB := Lib.hid hB
    clear hf hB
    by_cases hlt : k < n
    · have hkl : k < l.length := by rw [← HN.out]; exact hlt
      obtain ⟨b, off, ha, hb, hc, hc'⟩ := (HR.out.below (HB.out.mono HS.out)).at_ hkl
      subst ha
      have HS := Lib.hid (show l.drop k = l[k]'hkl :: l.drop (k + 1) from List.drop_eq_getElem_cons hkl)
      have HM := Lib.hid (show l[k]'hkl ∈ l from List.getElem_mem hkl)
      have eg : ∀ args w, (callFunc f args).run Try.prog w = .ok (.enter f args) w := HP.out.1
      generalize l[k]'hkl = x at *
      clear hkl
      have HC := Lib.hid (HP.out.2 x HM.out wr HB.out)
      obtain ⟨xp, xq⟩ := x
      dsimp only [mkV] at HC
      dsimp only at hc hc'
      go_wp2_with fail
      refine HC.out.mono ?_
      rintro e w1 ⟨rfl, hb1⟩
      have HB1 := Lib.hid (below_then HB.out hb1 HB.out.size)
      clear hb1 hc hb hc'
      have HX := Lib.hid (show firstAt p (l.drop k) k = if p (xp, xq) then (k : Int) else firstAt p (l.drop (k + 1)) ((k : Int) + 1) by rw [HS.out]; rfl)
      cases hpx : p (xp, xq) with
      | true =>
        have HE := Lib.hid (show firstAt p l 0 = k by rw [HF.out, HX.out, hpx]; rfl)
        clear hpx
        go_wp2
        go_ret
        exact ⟨by rw [HE.out]; rfl, HB1.out⟩
      | false =>
        have HE := Lib.hid (show firstAt p l 0 = firstAt p (l.drop (k + 1)) ((k : Int) + 1) by rw [HF.out, HX.out, hpx]; rfl)
        clear hpx
        go_wp2
        go_roundw
        case rel => exact ⟨k + 1, by omega, by go_num, by rw [HE.out]; rfl, HB1.out⟩
        case measure => simp [intOf]; omega
    · have HE := Lib.hid (show firstAt p l 0 = -1 by
        rw [HF.out, List.drop_of_length_le (by rw [← HN.out]; omega)]; rfl)
      go_wp2
      go_ret
      exact ⟨by rw [HE.out]; rfl, HB.out⟩
theorem containsFunc_ms {B : Nat} (a : Option Addr) (cap f : Nat) (lb : Array Value) (p : Nat × Nat → Bool) (l : List (Nat × Nat)) (n : Nat) (w : World) (hB : B ≤ w.heap.size) (hr : MsOk B w a n l) (hp : Pred mkV f lb p l w) :
    Calls Try.prog 62 #[.slice a n cap, .func (.func f) #[] lb] w fun e w' => e = .returned (.bool (l.any p)) ∧ Below w.heap.size w w' := by
  have HI := Lib.hid (indexFunc_ms a cap f lb p l n w hB hr hp)
  have HA := Lib.hid (firstAt_any p l 0 (Int.le_refl 0))
  clear hr hp hB
  go_enter Try.func62, Try.ntmps62
  go_wp2_with fail
  refine HI.out.mono ?_
  rintro e w1 ⟨rfl, hb1⟩
  go_wp2
  go_ret
  exact ⟨by rw [← HA.out]; rfl, hb1⟩

theorem fholds1_any (m : Nat × Nat) (hm : Sm m) (k : Nat) (hk : k < 4294967296) (g : Nat) (w : World) (hg : g < w.heap.size) (hc : w.cell? ⟨g, 0, none⟩ = some (.int .u32 k)) :
    Calls Try.prog 63 #[mkV m, .pointer (some ⟨g, 0, none⟩)] w fun e w' => e = .returned (.bool (!holdsM m k)) ∧ Below w.heap.size w w' := by
  have HC := Lib.hid (mholds_any m hm k hk)
  obtain ⟨p, q⟩ := m
  dsimp only [mkV] at HC ⊢
  clear hm
  go_enter Try.func63, Try.ntmps63
  go_wp2_with fail
  refine (HC.out _).mono ?_
  rintro e w1 ⟨rfl, hb1⟩
  have HB := Lib.hid (below_then (show Below w.heap.size w (w.alloc (.cells #[.int .u32 p, .int .u32 q] 81)) from (Below.refl _ _).alloc (Nat.le_refl _) _) hb1 (by simp))
  clear hb1
  go_wp2
  go_ret
  exact ⟨rfl, HB.out⟩
def satM (ms : List (Nat × Nat)) (k : Nat) : Bool := ms.all (fun m => holdsM m k)
def frV (N : Nat) (A : Option Addr) (n c : Nat) : Value := .agg #[.int .i64 N, .slice A n c]
theorem fholds_any {B : Nat} {w : World} (hB : B ≤ w.heap.size) (N : Nat) (A : Option Addr) (n c : Nat) (ms : List (Nat × Nat)) (hm : MsOk B w A n ms) (k : Nat) (hk : k < 4294967296) :
    Calls Try.prog 46 #[frV N A n c, .int .u32 k] w fun e w' => e = .returned (.bool (satM ms k)) ∧ Below w.heap.size w w' := by
  have HM := Lib.hid hm
  have HS := Lib.hid hB
  clear hm hB
  unfold frV
  go_enter Try.func46, Try.ntmps46
  go_upto_region 1 with (fail)
  obtain ⟨W, hW⟩ : ∃ W, W = (w.alloc (.cells #[.int .i64 N, .slice A n c] 73)).alloc (.cells #[.int .u32 k] 79) := ⟨_, rfl⟩
  rw [← hW]
  have HB := Lib.hid (show Below w.heap.size w W from hW ▸ ((Below.refl _ w).alloc (Nat.le_refl _) _).alloc (by simp) _)
  have hs : W.heap.size = w.heap.size + 2 := by rw [hW]; simp
  have k1 : W.cell? ⟨w.heap.size, 1, none⟩ = some (.slice A n c) := by rw [hW]; simp
  have k2 : W.cell? ⟨w.heap.size + 1, 0, none⟩ = some (.int .u32 k) := by rw [hW]; simp
  have HC := Lib.hid (containsFunc_ms A c 63 #[.pointer (some ⟨w.heap.size + 1, 0, none⟩)] (fun m => !holdsM m k) ms n W (Nat.le_trans HS.out HB.out.size) (HM.out.below (HB.out.mono HS.out))
    ⟨enters_of Try.func63 (by kernel_rfl) rfl, fun y hy W2 hb2 => fholds1_any y (HM.out.sm y hy) k hk (w.heap.size + 1) W2 (by have := hb2.size; omega)
      ((hb2.cell (p := ⟨w.heap.size + 1, 0, none⟩) (by show w.heap.size + 1 < _; omega)).trans k2)⟩)
  have HE := Lib.hid (show (!(ms.any fun m => !holdsM m k)) = satM ms k by unfold satM; simp [List.all_eq_not_any_not])
  clear k2 hs hW hk
  go_wp2_with fail
  refine HC.out.mono ?_
  rintro e w1 ⟨rfl, hb1⟩
  have HB1 := Lib.hid (below_then HB.out hb1 HB.out.size)
  clear hb1
  generalize (ms.any fun m => !holdsM m k) = r at *
  go_wp2
  go_ret
  exact ⟨by rw [← HE.out]; rfl, HB1.out⟩
end Go.Proofs.Ytfpohiflpemkjaa.Tr
