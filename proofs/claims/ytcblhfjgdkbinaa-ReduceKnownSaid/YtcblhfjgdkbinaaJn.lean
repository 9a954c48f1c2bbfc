/- Pick; records as both have them. Conditions: the memory. -/
import Derived.Test.YtcblhfjgdkbinaaJm
namespace Go.Proofs.Ytcblhfjgdkbinaa.Re
open Go.RowKit Go.Proofs.Ytcblhfjgdkbinaa.Mem Go.Proofs.Ytcblhfjgdkbinaa.Sl Go.Shelf Go.Sort Go.Proofs.Ytcblhfjgdkbinaa.Sr
open Go.Proofs.Ytcblhfjgdkbinaa.FnL (enc_at below_then)
set_option linter.unusedVariables false

def pickI (i n : Int) : Int := (i.tmod n + n).tmod n
theorem pickI_bd (i : Int) {n : Int} (hn : 0 < n) : 0 ≤ pickI i n ∧ pickI i n < n := by
  have h1 := Int.lt_tmod_of_pos i hn
  exact ⟨Int.tmod_nonneg _ (by omega), Int.tmod_lt_of_pos _ hn⟩
theorem pick_any (i : Int) (h0 : -9223372036854775808 ≤ i) (h1 : i ≤ 9223372036854775807) (n : Int) (hn : 0 < n) (hn2 : n ≤ 1000000) (w : World) :
    Calls Try.prog 7 #[.int .i64 i, .int .i64 n] w fun e w' => e = .returned (.int .i64 (pickI i n)) ∧ w' = w := by
  have hb1 : -n < i.tmod n ∧ i.tmod n < n := ⟨by have := Int.lt_tmod_of_pos i hn; omega, Int.tmod_lt_of_pos i hn⟩
  have HE := Lib.hid (show pickI i n = (i.tmod n + n).tmod n from rfl)
  have hp := pickI_bd i hn
  rw [HE.out] at hp
  obtain ⟨r, hr⟩ : ∃ r, i.tmod n = r := ⟨_, rfl⟩
  rw [hr] at hb1 HE hp
  have e1 : IntKind.i64.wrap r = r := IntWalk.i64_in _ (by omega)
  have e2 : IntKind.i64.wrap (r + n) = r + n := IntWalk.i64_in _ (by omega)
  obtain ⟨p, hpp⟩ : ∃ p, (r + n).tmod n = p := ⟨_, rfl⟩
  rw [hpp] at hp HE
  have e3 : IntKind.i64.wrap p = p := IntWalk.i64_in _ (by omega)
  have h3 : ¬ n ≤ 0 := by omega
  have h4 : (n == 0) = false := by simp; omega
  rw [HE.out]
  clear HE
  go_enter Try.func7, Try.ntmps7
  go_wp2
  go_ret
  exact ⟨rfl, rfl⟩
theorem SRow.ne_srow {w : World} {b1 b2 n1 n2 c1 c2 s1 s2 : Nat} {t1 t2 : TypeId} {A B : Option Addr} {x y : List Value} (h : SRow w b1 t1 s1 A n1 c1 x) (h' : SRow w b2 t2 s2 B n2 c2 y) (hne : t1 ≠ t2) : ∀ i, A = some ⟨i, 0, none⟩ → B = some ⟨i, 0, none⟩ → False := fun i e e' => by
  obtain ⟨_, ⟨h1, _⟩ | ⟨g, h1, _, _, _, h2⟩⟩ := h
  · rw [h1] at e; cases e
  · obtain ⟨_, ⟨h3, _⟩ | ⟨g', h3, _, _, _, h4⟩⟩ := h'
    · rw [h3] at e'; cases e'
    · obtain rfl : g = i := by rw [h1] at e; injection e with e; injection e
      obtain rfl : g' = g := by rw [h3] at e'; injection e' with e'; injection e'
      exact h2.ne_row h4 hne rfl
theorem infoF : ∃ i, Try.prog.info? 43 = some i ∧ i.zero = some (.agg #[.int .i64 0, .int .i64 0, .int .i64 0, .int .i64 0, .bool false]) ∧ i.size = 5 ∧ i.bytes = 40 := by
  obtain ⟨i0, hi⟩ := Option.isSome_iff_exists.1 (show (Try.prog.info? 43).isSome = true by kernel_rfl)
  have hz : (Try.prog.info? 43).map (fun i => (i.zero, i.size, i.bytes)) = some (some (.agg #[.int .i64 0, .int .i64 0, .int .i64 0, .int .i64 0, .bool false]), 5, 40) := by kernel_rfl
  rw [hi] at hz
  injection hz with hz
  injection hz with hz0 hz
  injection hz with hz1 hz2
  exact ⟨i0, hi, hz0, hz1, hz2⟩
/-- Both rows. -/
def BothR (w : World) (l : List Rc) (e : Ending) (w' : World) : Prop := ∃ A c B d, e = .returned (.tuple #[.slice A l.length c, .slice B l.length d]) ∧ SRow w' w.heap.size 28 5 A l.length c (RCs l) ∧ SRow w' w.heap.size 43 5 B l.length d (RCs l) ∧ Below w.heap.size w w'
theorem RCs_snoc {l : List Rc} {i : Nat} (h : i < l.length) : RCs (l.take (i + 1)) = RCs (l.take i) ++ encR l[i]! := by
  rw [List.take_succ_eq_append_getElem h, RCs_append, getElem!_pos l i h]; simp [RCs]
set_option maxRecDepth 100000 in
set_option maxHeartbeats 2000000 in
theorem both_any {w : World} (A0 : Option Addr) (c0 : Nat) (l : List Rc) (hr : RdV w A0 (RCs l)) (hl : l.length ≤ 1000) :
    Calls Try.prog 6 #[.slice A0 l.length c0] w (BothR w l) := by
  obtain ⟨N, hN⟩ : ∃ N, N = l.length := ⟨_, rfl⟩
  have HN := Lib.hid hN
  have HR := Lib.hid hr
  have HF := Lib.hid (show ∀ A c B d w', SRow w' w.heap.size 28 5 A N c (RCs l) → SRow w' w.heap.size 43 5 B N d (RCs l) → Below w.heap.size w w' → BothR w l (.returned (.tuple #[.slice A N c, .slice B N d])) w' from fun A c B d w' h1 h2 h3 => by
    subst hN
    exact ⟨A, c, B, d, rfl, h1, h2, h3⟩)
  rw [← hN] at hl ⊢
  clear hN hr
  go_enter Try.func6, Try.ntmps6
  go_wp2_with fail
  go_loopw [4, 5, 6, 7] (fun va vb vi _ wr => ∃ (i : Nat) (A : Option Addr) (c : Nat) (B : Option Addr) (d : Nat), va = .slice A i c ∧ vb = .slice B i d ∧ vi = .int .i64 i ∧ i ≤ N ∧ Below w.heap.size w wr ∧ SRow wr w.heap.size 28 5 A i c (RCs (l.take i)) ∧ SRow wr w.heap.size 43 5 B i d (RCs (l.take i))) (fun _ _ vi _ _ => N - (intOf vi).toNat)
  case atStart => exact ⟨0, none, 0, none, 0, rfl, rfl, rfl, Nat.zero_le _, Below.refl _ _, SRow.nil _ _ _ _, SRow.nil _ _ _ _⟩
  case round =>
    obtain ⟨i, A, c, B, d, rfl, rfl, rfl, hi, hB, h1, h2⟩ := hrel
    have HBR := Lib.hid hB
    have H1 := Lib.hid h1
    have H2 := Lib.hid h2
    clear hB h1 h2
    by_cases hlt : i < N
    · have hz : (i : Int) < (N : Int) := by omega
      have hil : i < l.length := by rw [← HN.out]; exact hlt
      have hat := fun j (hj : j < 5) => RCs_at l i j hil hj
      have HSN := Lib.hid (RCs_snoc hil)
      obtain ⟨r, hrr⟩ : ∃ r, r = l[i]! := ⟨_, rfl⟩
      rw [← hrr] at hat HSN
      obtain ⟨b0, o0, rfl, hbl, hc0⟩ := RdV.at_ (HR.out.below HBR.out) (hat 0 (by decide))
      have HC := Lib.hid (fun j v (hj : j < 5) (hv : (encR r)[j]? = some v) => show wr.cell? ⟨b0, o0 + (i * 5 + j), none⟩ = some v from by
        obtain ⟨b', o', e, _, hc⟩ := RdV.at_ (HR.out.below HBR.out) ((hat j hj).trans hv)
        injection e with e
        injection e with e1 e2
        rw [e1, e2]; exact hc)
      have q0 : wr.cell? ⟨b0, o0 + i * 5, none⟩ = some (.int .i64 r.id) := HC.out 0 _ (by decide) rfl
      have q1 : wr.cell? ⟨b0, o0 + i * 5 + 1, none⟩ = some (.int .i64 r.lbd) := HC.out 1 _ (by decide) rfl
      have q2 : wr.cell? ⟨b0, o0 + i * 5 + 2, none⟩ = some (.int .i64 r.size) := HC.out 2 _ (by decide) rfl
      have q3 : wr.cell? ⟨b0, o0 + i * 5 + 3, none⟩ = some (.int .i64 r.used) := HC.out 3 _ (by decide) rfl
      have q4 : wr.cell? ⟨b0, o0 + i * 5 + 4, none⟩ = some (.bool r.locked) := HC.out 4 _ (by decide) rfl
      obtain ⟨W, hW⟩ : ∃ W, W = wr.alloc (.cells #[.int .i64 r.id, .int .i64 r.lbd, .int .i64 r.size, .int .i64 r.used, .bool r.locked] 40) := ⟨_, rfl⟩
      have HBW := Lib.hid (show Below wr.heap.size wr W by rw [hW]; exact (Below.refl _ _).alloc (Nat.le_refl _) _)
      have HX := Lib.hid (show Blk W wr.heap.size 40 #[.int .i64 r.id, .int .i64 r.lbd, .int .i64 r.size, .int .i64 r.used, .bool r.locked] by rw [hW]; exact Blk.new _ _ _)
      have HWE := Lib.hid hW
      have HWS := Lib.hid HX.out.lt
      clear hat hc0 HC hW hrr hbl
      have HAP := Lib.hid (show ∀ (W' : World), W' = W → Below wr.heap.size wr (W'.alloc (.cells #[.int .i64 r.id, .int .i64 r.lbd, .int .i64 r.size, .int .i64 r.used, .bool r.locked] 28)) ∧ RdV (W'.alloc (.cells #[.int .i64 r.id, .int .i64 r.lbd, .int .i64 r.size, .int .i64 r.used, .bool r.locked] 28)) (some ⟨W'.heap.size, 0, none⟩) (encR r) from fun W' e => by
        subst e
        exact ⟨HBW.out.alloc HBW.out.size _, RdV.blk (rest := []) (Blk.new _ _ _)⟩)
      have HFA := Lib.hid (show ∀ (W' w1 : World), W' = W → Mod (fun i => A = some ⟨i, 0, none⟩) (W'.alloc (.cells #[.int .i64 r.id, .int .i64 r.lbd, .int .i64 r.size, .int .i64 r.used, .bool r.locked] 28)) w1 → Below w.heap.size w w1 ∧ SRow w1 w.heap.size 43 5 B i d (RCs (l.take i)) ∧ Blk w1 wr.heap.size 40 #[.int .i64 r.id, .int .i64 r.lbd, .int .i64 r.size, .int .i64 r.used, .bool r.locked] from fun W' w1 e hM => by
        have hb := (HAP.out W' e).1
        subst e
        have hA : ∀ i, A = some ⟨i, 0, none⟩ → w.heap.size ≤ i ∧ i < wr.heap.size := fun i e => H1.out.lt e
        refine ⟨Mem.Below.then_mod (below_then HBR.out hb HBR.out.size) hM (fun i hi e => by have := hA i e; omega) (Nat.le_refl _), (H2.out.below hb).mod hM (fun i e e' => SRow.ne_srow H1.out H2.out (by decide) i e' e), ((HX.out.alloc _).mod hM fun e => by have := hA _ e; omega)⟩)
      go_wp2_with (first
        | (at_builtin; obtain ⟨hb1, hrd1⟩ := HAP.out _ HWE.out.symm; refine wpAppS 23 28 (.agg #[.int .i64 0, .int .i64 0, .int .i64 0, .int .i64 0, .bool false]) 5 40 Try.underlying23 infoR rfl (by decide) rfl _ _ rfl w.heap.size A i c (RCs (l.take i)) rfl (H1.out.below hb1) (some ⟨wr.heap.size + 1, 0, none⟩) 1 1 (encR r) rfl rfl (by simpa using hrd1) (fun h => by cases h) (encR_one r) (by unfold maxLen; omega) (by omega) (Nat.le_trans HBR.out.size hb1.size) ?_; intro A2 c2 w2 hO2 hM2 _; obtain ⟨h3, h4, h5⟩ := HFA.out _ w2 HWE.out.symm hM2; have HB2 := Lib.hid h3; have H22 := Lib.hid h4; have HX2 := Lib.hid h5; have H12 := Lib.hid (show SRow w2 w.heap.size 28 5 A2 (i + 1) c2 (RCs (l.take (i + 1))) from by rw [HSN.out]; exact hO2); clear hO2 hM2 h3 h4 h5 hb1 hrd1
           have x0 : w2.cell? ⟨wr.heap.size, 0, none⟩ = some (.int .i64 r.id) := HX2.out.cell 0
           have x1 : w2.cell? ⟨wr.heap.size, 1, none⟩ = some (.int .i64 r.lbd) := HX2.out.cell 1
           have x2 : w2.cell? ⟨wr.heap.size, 2, none⟩ = some (.int .i64 r.size) := HX2.out.cell 2
           have x3 : w2.cell? ⟨wr.heap.size, 3, none⟩ = some (.int .i64 r.used) := HX2.out.cell 3
           have x4 : w2.cell? ⟨wr.heap.size, 4, none⟩ = some (.bool r.locked) := HX2.out.cell 4
           have HB3 := Lib.hid (show Below w2.heap.size w2 (w2.alloc (.cells #[.int .i64 r.id, .int .i64 r.lbd, .int .i64 r.size, .int .i64 r.used, .bool r.locked] 43)) from (Below.refl _ _).alloc (Nat.le_refl _) _)
           have HRD3 := Lib.hid (show RdV (w2.alloc (.cells #[.int .i64 r.id, .int .i64 r.lbd, .int .i64 r.size, .int .i64 r.used, .bool r.locked] 43)) (some ⟨w2.heap.size, 0, none⟩) (encR r) from RdV.blk (rest := []) (Blk.new _ _ _))
           have HFB := Lib.hid (show ∀ (w3 : World), Mod (fun i => B = some ⟨i, 0, none⟩) (w2.alloc (.cells #[.int .i64 r.id, .int .i64 r.lbd, .int .i64 r.size, .int .i64 r.used, .bool r.locked] 43)) w3 → Below w.heap.size w w3 ∧ SRow w3 w.heap.size 28 5 A2 (i + 1) c2 (RCs (l.take (i + 1))) from fun w3 hM => by
             have hA : ∀ i, B = some ⟨i, 0, none⟩ → w.heap.size ≤ i ∧ i < w2.heap.size := fun i e => H22.out.lt e
             exact ⟨Mem.Below.then_mod (below_then HB2.out HB3.out HB2.out.size) hM (fun i hi e => by have := hA i e; omega) (Nat.le_refl _), (H12.out.below HB3.out).mod hM (fun i e e' => SRow.ne_srow H12.out H22.out (by decide) i e e')⟩))
        | (at_builtin; refine wpAppS 24 43 (.agg #[.int .i64 0, .int .i64 0, .int .i64 0, .int .i64 0, .bool false]) 5 40 Try.underlying24 infoF rfl (by decide) rfl _ _ rfl w.heap.size B i d (RCs (l.take i)) rfl (H22.out.below HB3.out) (some ⟨w2.heap.size, 0, none⟩) 1 1 (encR r) rfl rfl HRD3.out (fun h => by cases h) (encR_one r) (by unfold maxLen; omega) (by omega) (Nat.le_trans HB2.out.size HB3.out.size) ?_; intro B2 d2 w3 hO3 hM3 _; obtain ⟨h3, h4⟩ := HFB.out w3 hM3; have HB4 := Lib.hid h3; have H14 := Lib.hid h4; have H24 := Lib.hid (show SRow w3 w.heap.size 43 5 B2 (i + 1) d2 (RCs (l.take (i + 1))) from by rw [HSN.out]; exact hO3); clear hO3 hM3 h3 h4))
      go_roundw
      case rel => exact ⟨i + 1, A2, c2, B2, d2, rfl, rfl, by go_num, hlt, HB4.out, H14.out, H24.out⟩
      case measure => simp [intOf]; omega
    · obtain rfl : i = N := by omega
      have HG := Lib.hid (HF.out A c B d wr (by have := H1.out; rwa [HN.out, List.take_length, ← HN.out] at this) (by have := H2.out; rwa [HN.out, List.take_length, ← HN.out] at this) HBR.out)
      go_wp2
      go_ret2
      exact HG.out
end Go.Proofs.Ytcblhfjgdkbinaa.Re
