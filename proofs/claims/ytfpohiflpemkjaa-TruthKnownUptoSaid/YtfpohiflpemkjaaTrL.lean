/- truth.Implies: the walk. -/
import Derived.Test.YtfpohiflpemkjaaTrJ
namespace Go.Proofs.Ytfpohiflpemkjaa.Tr
open Go.RowKit Go.Proofs.Ytfpohiflpemkjaa.Mem Go.Proofs.Ytfpohiflpemkjaa.Sl Go.Proofs.Ytfpohiflpemkjaa.Cl Go.Proofs.Ytfpohiflpemkjaa.Mo Go.Shelf
open Go.Proofs.Ytfpohiflpemkjaa.FnL (Pred enc_at below_then)
set_option linter.unusedVariables false

def unlessF (V : Nat) (cs : List CV) (l : List Int) (k : Nat) : Bool := satB V cs k && !valB (modelB V k) l
def impliesS (N : Int) (cs : List CV) (l : List Int) : Bool × Int :=
  if takenE N cs = 0 then (if l.any (badB N) then (false, 4) else (decide (firstF (unlessF N.toNat cs l) (2 ^ N.toNat) 0 < 0), 0)) else (false, takenE N cs)
theorem imp1_any (N : Int) (hN0 : 0 ≤ N) (hN : N ≤ 16) (x : Int) (h0 : -2147483648 ≤ x) (h1 : x ≤ 2147483647) (g : Nat) (w : World) (q : w.cell? ⟨g, 0, none⟩ = some (.int .i64 N)) :
    Calls Try.prog 49 #[.int .i32 x, .pointer (some ⟨g, 0, none⟩)] w fun e w' => e = .returned (.bool (badB N x)) ∧ Below w.heap.size w w' := by
  have HB := Lib.hid (show badB N x = (x == 0 || decide (N < varI x)) from rfl)
  by_cases hx : x = 0
  · have HE := Lib.hid (show badB N x = true by rw [HB.out, hx]; rfl)
    subst hx
    go_enter Try.func49, Try.ntmps49
    go_wp2_with fail
    go_quiet (fail)
    go_wp2
    go_ret
    exact ⟨by rw [HE.out]; rfl, belowN (Below.refl _ _) _⟩
  · have hx' : (x == 0) = false := by simpa using hx
    have HC := Lib.hid (fun W => Var_any x h0 h1 W)
    rw [hx', Bool.false_or] at HB
    generalize varI x = v at *
    generalize badB N x = r at *
    clear h0 h1
    go_enter Try.func49, Try.ntmps49
    go_wp2_with fail
    go_quiet ((go_at_call 33; exact qs (HC.out _) ⟨_, rfl⟩))
    go_wp2
    go_ret
    exact ⟨by rw [HB.out]; rfl, belowN (Below.refl _ _) _⟩
/-- The predicate that Implies asks: the formula holds, the clause does not. -/
theorem imp2_any {B : Nat} {w : World} (hB : B ≤ w.heap.size) (V : Nat) (hV : V ≤ 16) (A : Option Addr) (n c : Nat) (cs : List CV) (hm : MsOk B w A n (cs.map fun x => maskOf x.l)) (hl : ∀ x, x ∈ cs → ∀ y, y ∈ x.l → 1 ≤ varI y ∧ varI y ≤ V)
    (l : List Int) (hll : ∀ y, y ∈ l → 1 ≤ varI y ∧ varI y ≤ V) (g1 g2 : Nat) (k1 : Blk w g1 73 #[.int .i64 V, .slice A n c]) (k2 : Blk w g2 81 #[.int .u32 (maskOf l).1, .int .u32 (maskOf l).2]) (k : Nat) (hk : k < 2 ^ V) :
    Calls Try.prog 51 #[.int .u32 k, .pointer (some ⟨g1, 0, none⟩), .pointer (some ⟨g2, 0, none⟩)] w fun e w' => e = .returned (.bool (unlessF V cs l k)) ∧ Below w.heap.size w w' := by
  have h2 : 2 ^ V ≤ 65536 := Nat.le_trans (Nat.pow_le_pow_right (by decide) hV) (by decide)
  have HU := Lib.hid (show unlessF V cs l k = (satB V cs k && !holdsM (maskOf l) k) by rw [holdsM_val V k hV hk l hll]; rfl)
  have HC := Lib.hid (fholds_any hB V A n c _ hm k (by omega))
  rw [satM_satB V hV cs hl k hk] at HC
  have HSM := Lib.hid (show Sm (maskOf l) from by
    have := mask_lt l (0, 0) (fun y hy => by have := hll y hy; omega) (by decide) (by decide)
    exact ⟨Nat.lt_of_lt_of_le this.1 (by decide), Nat.lt_of_lt_of_le this.2 (by decide)⟩)
  have HCM := Lib.hid (mholds_any (maskOf l) HSM.out k (by omega))
  have K1 := Lib.hid k1
  have K2 := Lib.hid k2
  generalize maskOf l = m at *
  obtain ⟨mp, mq⟩ := m
  dsimp only at K2 k2
  generalize satB V cs k = b1 at *
  generalize holdsM (mp, mq) k = b2 at *
  unfold frV at HC
  dsimp only [mkV] at HCM
  have t0 : w.cell? ⟨g1, 0, none⟩ = some (.int .i64 V) := K1.out.cell 0
  have t1 : w.cell? ⟨g1, 1, none⟩ = some (.slice A n c) := K1.out.cell 1
  clear hm hl hll k1 k2 hB hk h2 HSM
  go_enter Try.func51, Try.ntmps51
  go_wp2_with fail
  refine HC.out.mono ?_
  rintro e w1 ⟨rfl, hb1⟩
  have HB1 := Lib.hid hb1
  have u0 : w1.cell? ⟨g2, 0, none⟩ = some (.int .u32 mp) := (K2.out.below hb1).cell 0
  have u1 : w1.cell? ⟨g2, 1, none⟩ = some (.int .u32 mq) := (K2.out.below hb1).cell 1
  clear hb1 t0 t1
  cases b1 with
  | false =>
    go_wp2
    go_ret
    exact ⟨by rw [HU.out]; rfl, HB1.out⟩
  | true =>
    have HC2 := Lib.hid (HCM.out w1)
    go_wp2_with fail
    refine HC2.out.mono ?_
    rintro e w2 ⟨rfl, hb2⟩
    have HB2 := Lib.hid (below_then HB1.out hb2 HB1.out.size)
    clear hb2 u0 u1 HC2
    go_wp2
    go_ret
    exact ⟨by rw [HU.out]; rfl, HB2.out⟩
theorem want_imp {w : World} {B : Nat} (hB : B ≤ w.heap.size) (V : Nat) (hV : V ≤ 16) (A : Option Addr) (n c : Nat) (cs : List CV) (hm : MsOk B w A n (cs.map fun x => maskOf x.l)) (hl : ∀ x, x ∈ cs → ∀ y, y ∈ x.l → 1 ≤ varI y ∧ varI y ≤ V)
    (l : List Int) (hll : ∀ y, y ∈ l → 1 ≤ varI y ∧ varI y ≤ V) (g1 g2 : Nat) (k1 : Blk w g1 73 #[.int .i64 V, .slice A n c]) (k2 : Blk w g2 81 #[.int .u32 (maskOf l).1, .int .u32 (maskOf l).2]) :
    Want 51 #[] #[.pointer (some ⟨g1, 0, none⟩), .pointer (some ⟨g2, 0, none⟩)] (unlessF V cs l) (2 ^ V) w :=
  ⟨enters_of Try.func51 (by kernel_rfl) rfl, fun k hk W hb =>
    imp2_any (B := B) (Nat.le_trans hB hb.size) V hV A n c cs (hm.below (hb.mono hB)) hl l hll g1 g2 (k1.below hb) (k2.below hb) k hk⟩
theorem want_badB {w : World} {B : Nat} (hB : B ≤ w.heap.size) (N : Int) (hN0 : 0 ≤ N) (hN : N ≤ 16) (x : CV) (hx : ClOk B w x) (g : Nat) (hg : g < w.heap.size) (q : w.cell? ⟨g, 0, none⟩ = some (.int .i64 N)) :
    Calls Try.prog 34 #[x.v, .func (.func 49) #[] #[.pointer (some ⟨g, 0, none⟩)]] w fun e w' => e = .returned (.bool (x.l.any (badB N))) ∧ Below w.heap.size w w' :=
  FnL.containsFunc_any (Value.int .i32) x.A x.c 49 #[.pointer (some ⟨g, 0, none⟩)] (badB N) x.l x.n hx.ln hx.mx w (hx.rd.rd hB)
    ⟨enters_of Try.func49 (by kernel_rfl) rfl, fun y hy W hb => imp1_any N hN0 hN y (hx.lb y hy).1 (hx.lb y hy).2 g W ((hb.cell (p := ⟨g, 0, none⟩) hg).trans q)⟩
set_option maxRecDepth 100000 in
theorem Implies_any {B : Nat} {w : World} (hB : B ≤ w.heap.size) (N : Int) (ca : Option Addr) (cn cc : Nat) (cs : List CV) (hcs : ClsOk B w ca cn cs) (x : CV) (hx : ClOk B w x) :
    Calls Try.prog 28 #[.agg #[.int .i64 N, .slice ca cn cc], x.v] w fun e w' => e = .returned (.tuple #[.bool (impliesS N cs x.l).1, .int .i64 (impliesS N cs x.l).2]) ∧ Below w.heap.size w w' := by
  have HS := Lib.hid hB
  have HCS := Lib.hid hcs
  have HX := Lib.hid hx
  obtain ⟨l, hl⟩ : ∃ l, l = x.l := ⟨_, rfl⟩
  rw [← hl]
  have HLX := Lib.hid hl
  have HV := Lib.hid (show x.v = .slice x.A x.n x.c from rfl)
  rw [HV.out]
  clear hB hcs hx hl
  go_enter Try.func28, Try.ntmps28
  go_upto_region 1 with (fail)
  obtain ⟨W0, hW0⟩ : ∃ W0, W0 = w.alloc (.cells #[.int .i64 N, .slice ca cn cc] 34) := ⟨_, rfl⟩
  rw [← hW0]
  have HB0 := Lib.hid (show Below w.heap.size w W0 from hW0 ▸ ((Below.refl _ w).alloc (Nat.le_refl _) _))
  have K0 := Lib.hid (show Blk W0 w.heap.size 34 #[.int .i64 N, .slice ca cn cc] from hW0 ▸ Blk.new w _ _)
  have HW0 := Lib.hid (show W0.heap.size = w.heap.size + 1 by rw [hW0]; simp)
  clear hW0
  have q1 : W0.cell? ⟨w.heap.size, 0, none⟩ = some (.int .i64 N) := K0.out.cell 0
  have q2 : W0.cell? ⟨w.heap.size, 1, none⟩ = some (.slice ca cn cc) := K0.out.cell 1
  have HC := Lib.hid (take_any (Nat.le_trans HS.out HB0.out.size) N ca cn cc cs (HCS.out.below (HB0.out.mono HS.out)))
  go_wp2_with fail
  refine HC.out.mono ?_
  rintro e w1 ⟨hT, hb1⟩
  have HB1 := Lib.hid (below_then HB0.out hb1 HB0.out.size)
  have HZ1 := Lib.hid hb1.size
  have K01 := Lib.hid (K0.out.below hb1)
  clear hb1 q1 q2 HC
  rcases hT with ⟨hne, rfl⟩ | ⟨h0, V, A, n, c, hV, hV16, rfl, hms⟩
  · have HE := Lib.hid (show impliesS N cs l = (false, takenE N cs) from if_neg hne)
    have hne' : (takenE N cs == 0) = false := by simpa using hne
    clear hne
    generalize takenE N cs = er at *
    go_wp2
    go_ret2
    exact ⟨by rw [HE.out]; rfl, (HB1.out.alloc HB1.out.size _)⟩
  · subst hV
    have HL := Lib.hid (taken_ok h0).2.2.2.2
    have HE := Lib.hid (show impliesS (V : Int) cs l = if l.any (badB V) then (false, 4) else (decide (firstF (unlessF V cs l) (2 ^ V) 0 < 0), 0) from if_pos h0)
    have HMS := Lib.hid hms
    clear hms h0
    obtain ⟨W1, hW1⟩ : ∃ W1, W1 = w1.alloc (.cells #[.int .i64 V, .slice A n c] 73) := ⟨_, rfl⟩
    have HBX := Lib.hid (show Below w1.heap.size w1 W1 from hW1 ▸ ((Below.refl _ w1).alloc (Nat.le_refl _) _))
    unfold frV
    go_upto_region 4 with (fail)
    rw [← hW1]
    have KT := Lib.hid (show Blk W1 w1.heap.size 73 #[.int .i64 V, .slice A n c] from hW1 ▸ Blk.new w1 _ _)
    have HW1 := Lib.hid (show W1.heap.size = w1.heap.size + 1 by rw [hW1]; simp)
    clear hW1
    have HBW1 := Lib.hid (below_then HB1.out HBX.out HB1.out.size)
    have HLT := Lib.hid (show w.heap.size < W1.heap.size by have := HW0.out; have := HZ1.out; have := HW1.out; omega)
    have HC := Lib.hid (want_badB (Nat.le_trans HS.out HBW1.out.size) V (by omega) (by omega) x (HX.out.below (HBW1.out.mono HS.out)) w.heap.size HLT.out ((K01.out.below HBX.out).cell 0))
    rw [← HLX.out, HV.out] at HC
    obtain ⟨bd, hbd⟩ : ∃ bd, bd = l.any (badB V) := ⟨_, rfl⟩
    rw [← hbd] at HC HE
    have HBD := Lib.hid hbd
    clear hbd
    go_wp2_with fail
    refine HC.out.mono ?_
    rintro e w2 ⟨rfl, hb2⟩
    have HB2 := Lib.hid (below_then HBW1.out hb2 HBW1.out.size)
    have HBX2 := Lib.hid (below_then HBX.out hb2 HBX.out.size)
    have KT2 := Lib.hid (KT.out.below hb2)
    clear hb2 HC
    cases bd with
    | true =>
      have HF := Lib.hid (HE.out.trans (if_pos rfl))
      go_wp2
      go_ret2
      exact ⟨by rw [HF.out]; rfl, HB2.out⟩
    | false =>
      have HF := Lib.hid (HE.out.trans (if_neg (by decide)))
      have HLL := Lib.hid (show ∀ y, y ∈ l → 1 ≤ varI y ∧ varI y ≤ (V : Int) from fun y hy => bad_lit (by
        have := HBD.out
        cases hb : badB (V : Int) y with
        | false => rfl
        | true => rw [List.any_eq_true.2 ⟨y, hy, hb⟩] at this; cases this))
      have HC := Lib.hid (clause_any (Nat.le_trans HS.out HB2.out.size) x (HX.out.below (HB2.out.mono HS.out)) (by rw [← HLX.out]; exact fun y hy => by have := HLL.out y hy; omega))
      rw [← HLX.out, HV.out] at HC
      obtain ⟨mp, mq, hm⟩ : ∃ mp mq, maskOf l = (mp, mq) := ⟨_, _, rfl⟩
      have HMK := Lib.hid hm
      rw [hm] at HC
      dsimp only [mkV] at HC
      clear hm
      go_wp2_with fail
      refine HC.out.mono ?_
      rintro e w3 ⟨rfl, hb3⟩
      have HB3 := Lib.hid (below_then HB2.out hb3 HB2.out.size)
      have HBX3 := Lib.hid (below_then HBX2.out hb3 HBX2.out.size)
      have KT3 := Lib.hid (KT2.out.below hb3)
      clear hb3 HC
      obtain ⟨W3, hW3⟩ : ∃ W3, W3 = w3.alloc (.cells #[.int .u32 mp, .int .u32 mq] 81) := ⟨_, rfl⟩
      have HBX4 := Lib.hid (show Below w3.heap.size w3 W3 from hW3 ▸ ((Below.refl _ w3).alloc (Nat.le_refl _) _))
      have HW3 := Lib.hid (show W3.heap.size = w3.heap.size + 1 by rw [hW3]; simp)
      have KM := Lib.hid (show Blk W3 w3.heap.size 81 #[.int .u32 mp, .int .u32 mq] from hW3 ▸ Blk.new w3 _ _)
      have KT4 := Lib.hid (KT3.out.below HBX4.out)
      have HBY := Lib.hid (below_then HBX3.out HBX4.out HBX3.out.size)
      have HB4 := Lib.hid (below_then HB3.out HBX4.out HB3.out.size)
      obtain ⟨p, hp⟩ : ∃ p, p = unlessF V cs l := ⟨_, rfl⟩
      have HC := Lib.hid (first_any V hV16 A n c 0 (Nat.zero_le _) 51 #[] #[.pointer (some ⟨w1.heap.size, 0, none⟩), .pointer (some ⟨w3.heap.size, 0, none⟩)] (unlessF V cs l)
        (want_imp (w := W3) HBY.out.size V hV16 A n c cs (HMS.out.below HBY.out) HL.out l HLL.out w1.heap.size w3.heap.size KT4.out (by rw [HMK.out]; exact KM.out)))
      rw [← hp] at HC HF
      rw [show 2 ^ V - 0 = 2 ^ V from rfl] at HC
      obtain ⟨F, hF⟩ : ∃ F, F = firstF p (2 ^ V) 0 := ⟨_, rfl⟩
      rw [← hF] at HC HF
      unfold frV at HC
      clear hF hp
      go_upto_region 7 with (fail)
      rw [← hW3]
      clear hW3
      have t0 : W3.cell? ⟨w1.heap.size, 0, none⟩ = some (.int .i64 V) := KT4.out.cell 0
      have t1 : W3.cell? ⟨w1.heap.size, 1, none⟩ = some (.slice A n c) := KT4.out.cell 1
      go_wp2_with fail
      refine HC.out.mono ?_
      rintro e w5 ⟨rfl, hb5⟩
      have HB5 := Lib.hid (below_then HB4.out hb5 HB4.out.size)
      clear hb5 t0 t1 HC
      go_wp2
      go_ret2
      exact ⟨by rw [HF.out]; rfl, HB5.out⟩
end Go.Proofs.Ytfpohiflpemkjaa.Tr
