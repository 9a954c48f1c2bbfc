/- truth.Alike: the walk. -/
import Derived.Test.YtfpohiflpemkjaaTrM
namespace Go.Proofs.Ytfpohiflpemkjaa.Tr
open Go.RowKit Go.Proofs.Ytfpohiflpemkjaa.Mem Go.Proofs.Ytfpohiflpemkjaa.Sl Go.Proofs.Ytfpohiflpemkjaa.Cl Go.Proofs.Ytfpohiflpemkjaa.Mo Go.Shelf
open Go.Proofs.Ytfpohiflpemkjaa.FnL (Pred enc_at below_then)
set_option linter.unusedVariables false

def unlikeF (V : Nat) (cs ds : List CV) (k : Nat) : Bool := satB V cs k != satB V ds k
def alikeS (N : Int) (cs : List CV) (N' : Int) (ds : List CV) : Bool × Int :=
  if takenE N cs = 0 then (if takenE N' ds = 0 then (if N = N' then (decide (firstF (unlikeF N.toNat cs ds) (2 ^ N.toNat) 0 < 0), 0) else (false, 2)) else (false, takenE N' ds)) else (false, takenE N cs)
set_option maxRecDepth 100000 in
theorem ali_any {B : Nat} {w : World} (hB : B ≤ w.heap.size) (V : Nat) (hV : V ≤ 16) (A : Option Addr) (n c : Nat) (cs : List CV) (hm : MsOk B w A n (cs.map fun x => maskOf x.l)) (hl : ∀ x, x ∈ cs → ∀ y, y ∈ x.l → 1 ≤ varI y ∧ varI y ≤ V)
    (A' : Option Addr) (n' c' : Nat) (ds : List CV) (hm' : MsOk B w A' n' (ds.map fun x => maskOf x.l)) (hl' : ∀ x, x ∈ ds → ∀ y, y ∈ x.l → 1 ≤ varI y ∧ varI y ≤ V)
    (g1 g2 : Nat) (k1 : Blk w g1 73 #[.int .i64 V, .slice A n c]) (k2 : Blk w g2 73 #[.int .i64 V, .slice A' n' c']) (k : Nat) (hk : k < 2 ^ V) :
    Calls Try.prog 53 #[.int .u32 k, .pointer (some ⟨g1, 0, none⟩), .pointer (some ⟨g2, 0, none⟩)] w fun e w' => e = .returned (.bool (unlikeF V cs ds k)) ∧ Below w.heap.size w w' := by
  have h2 : 2 ^ V ≤ 65536 := Nat.le_trans (Nat.pow_le_pow_right (by decide) hV) (by decide)
  have HU := Lib.hid (show unlikeF V cs ds k = (satB V cs k != satB V ds k) from rfl)
  have HBB := Lib.hid (show ∀ w6, Below w.drew.heap.size w.drew w6 → Below w.heap.size w w6 from fun w6 h => ⟨h.os, h.tape, h.output, h.size, h.block⟩)
  have HC := Lib.hid (fholds_any (w := w.drew) (B := B) hB V A n c _ (hm.below ((Below.refl _ w).drew)) k (by omega))
  have K1 := Lib.hid k1
  have K2 := Lib.hid k2
  have HC2 := Lib.hid fun (w6 : World) (hb : Below w.drew.heap.size w.drew w6) => fholds_any (w := w6) (B := B) (Nat.le_trans hB (HBB.out w6 hb).size) V A' n' c' _ (hm'.below ((HBB.out w6 hb).mono hB)) k (by omega)
  have HKK := Lib.hid fun (w6 : World) (h : Below w.drew.heap.size w.drew w6) => (show w6.cell? ⟨g1, 0, none⟩ = some (.int .i64 V) ∧ w6.cell? ⟨g1, 1, none⟩ = some (.slice A n c) ∧ w6.cell? ⟨g2, 0, none⟩ = some (.int .i64 V) ∧ w6.cell? ⟨g2, 1, none⟩ = some (.slice A' n' c') from
    ⟨(K1.out.below (HBB.out w6 h)).cell 0, (K1.out.below (HBB.out w6 h)).cell 1, (K2.out.below (HBB.out w6 h)).cell 0, (K2.out.below (HBB.out w6 h)).cell 1⟩)
  rw [satM_satB V hV cs hl k hk] at HC
  rw [satM_satB V hV ds hl' k hk] at HC2
  generalize satB V cs k = b1 at *
  generalize satB V ds k = b2 at *
  unfold frV at HC HC2
  have t0 : w.cell? ⟨g1, 0, none⟩ = some (.int .i64 V) := K1.out.cell 0
  have t1 : w.cell? ⟨g1, 1, none⟩ = some (.slice A n c) := K1.out.cell 1
  have s0 : w.cell? ⟨g2, 0, none⟩ = some (.int .i64 V) := K2.out.cell 0
  have s1 : w.cell? ⟨g2, 1, none⟩ = some (.slice A' n' c') := K2.out.cell 1
  clear hm hl hm' hl' k1 k2 hB hk h2
  go_enter Try.func53, Try.ntmps53
  go_upto_region 1 with (fail)
  go_region_law (first
    | (go_simp; go_at_call_of 46 (Value.slice A n c); refine HC.out.mono ?_; rintro e w6 ⟨rfl, hb6⟩; obtain ⟨c0, c1, c2, c3⟩ := HKK.out w6 hb6; have HH := Lib.hid (HC2.out w6 hb6); have HB6 := Lib.hid hb6; clear hb6)
    | (go_simp; go_at_call_of 46 (Value.slice A' n' c'); refine HH.out.mono ?_; rintro e w7 ⟨rfl, hb7⟩; have HB7 := Lib.hid hb7; clear hb7))
  all_goals
    have HB8 := Lib.hid ((HBB.out _ HB6.out).trans (HB7.out.mono (HBB.out _ HB6.out).size))
    go_wp2
    go_ret
    exact ⟨by rw [HU.out]; cases b1 <;> cases b2 <;> rfl, HB8.out⟩
set_option maxRecDepth 100000 in
theorem Alike_any {B : Nat} {w : World} (hB : B ≤ w.heap.size) (N : Int) (ca : Option Addr) (cn cc : Nat) (cs : List CV) (hcs : ClsOk B w ca cn cs) (N' : Int) (da : Option Addr) (dn dc : Nat) (ds : List CV) (hds : ClsOk B w da dn ds) :
    Calls Try.prog 30 #[.agg #[.int .i64 N, .slice ca cn cc], .agg #[.int .i64 N', .slice da dn dc]] w fun e w' => e = .returned (.tuple #[.bool (alikeS N cs N' ds).1, .int .i64 (alikeS N cs N' ds).2]) ∧ Below w.heap.size w w' := by
  have HS := Lib.hid hB
  have HCS := Lib.hid hcs
  have HDS := Lib.hid hds
  clear hB hcs hds
  go_enter Try.func30, Try.ntmps30
  go_upto_region 1 with (fail)
  obtain ⟨W0, hW0⟩ : ∃ W0, W0 = (w.alloc (.cells #[.int .i64 N, .slice ca cn cc] 34)).alloc (.cells #[.int .i64 N', .slice da dn dc] 34) := ⟨_, rfl⟩
  rw [← hW0]
  have HB0 := Lib.hid (show Below w.heap.size w W0 from hW0 ▸ (((Below.refl _ w).alloc (Nat.le_refl _) _).alloc (by simp) _))
  have K0 := Lib.hid (show Blk W0 w.heap.size 34 #[.int .i64 N, .slice ca cn cc] from hW0 ▸ (Blk.new w _ _).alloc _)
  have K1 := Lib.hid (show Blk W0 (w.heap.size + 1) 34 #[.int .i64 N', .slice da dn dc] by rw [hW0]; exact Cl.blk_here (by simp))
  have HW0 := Lib.hid (show W0.heap.size = w.heap.size + 2 by rw [hW0]; simp)
  clear hW0
  have q1 : W0.cell? ⟨w.heap.size, 0, none⟩ = some (.int .i64 N) := K0.out.cell 0
  have q2 : W0.cell? ⟨w.heap.size, 1, none⟩ = some (.slice ca cn cc) := K0.out.cell 1
  have HC := Lib.hid (take_any (Nat.le_trans HS.out HB0.out.size) N ca cn cc cs (HCS.out.below (HB0.out.mono HS.out)))
  go_wp2_with fail
  refine HC.out.mono ?_
  rintro e w1 ⟨hT, hb1⟩
  have HB1 := Lib.hid (below_then HB0.out hb1 HB0.out.size)
  have HZ1 := Lib.hid hb1.size
  have K01 := Lib.hid (K0.out.below hb1)
  have K11 := Lib.hid (K1.out.below hb1)
  clear hb1 q1 q2 HC
  rcases hT with ⟨hne, rfl⟩ | ⟨h0, V, A, n, c, hV, hV16, rfl, hms⟩
  · have HE := Lib.hid (show alikeS N cs N' ds = (false, takenE N cs) from if_neg hne)
    have hne' : (takenE N cs == 0) = false := by simpa using hne
    clear hne
    generalize takenE N cs = er at *
    go_wp2
    go_ret2
    exact ⟨by rw [HE.out]; rfl, (HB1.out.alloc HB1.out.size _)⟩
  · subst hV
    have HL := Lib.hid (taken_ok h0).2.2.2.2
    have HE := Lib.hid (show alikeS (V : Int) cs N' ds = if takenE N' ds = 0 then (if (V : Int) = N' then (decide (firstF (unlikeF V cs ds) (2 ^ V) 0 < 0), 0) else (false, 2)) else (false, takenE N' ds) from if_pos h0)
    have HMS := Lib.hid hms
    clear hms h0
    obtain ⟨W1, hW1⟩ : ∃ W1, W1 = w1.alloc (.cells #[.int .i64 V, .slice A n c] 73) := ⟨_, rfl⟩
    have HBX := Lib.hid (show Below w1.heap.size w1 W1 from hW1 ▸ ((Below.refl _ w1).alloc (Nat.le_refl _) _))
    unfold frV
    go_upto_region 4 with (fail)
    rw [← hW1]
    have KT := Lib.hid (show Blk W1 w1.heap.size 73 #[.int .i64 V, .slice A n c] from hW1 ▸ Blk.new w1 _ _)
    have HW1 := Lib.hid (show W1.heap.size = w1.heap.size + 1 by rw [hW1]; simp)
    clear hW1
    have HBW1 := Lib.hid (below_then HB1.out HBX.out HB1.out.size)
    have K02 := Lib.hid (K01.out.below HBX.out)
    have K12 := Lib.hid (K11.out.below HBX.out)
    have q1 : W1.cell? ⟨w.heap.size + 1, 0, none⟩ = some (.int .i64 N') := K12.out.cell 0
    have q2 : W1.cell? ⟨w.heap.size + 1, 1, none⟩ = some (.slice da dn dc) := K12.out.cell 1
    have HC := Lib.hid (take_any (Nat.le_trans HS.out HBW1.out.size) N' da dn dc ds (HDS.out.below (HBW1.out.mono HS.out)))
    go_wp2_with fail
    refine HC.out.mono ?_
    rintro e w2 ⟨hT, hb2⟩
    have HB2 := Lib.hid (below_then HBW1.out hb2 HBW1.out.size)
    have HBX2 := Lib.hid (below_then HBX.out hb2 HBX.out.size)
    have KT2 := Lib.hid (KT.out.below hb2)
    have K03 := Lib.hid (K02.out.below hb2)
    have K13 := Lib.hid (K12.out.below hb2)
    have HZ2 := Lib.hid hb2.size
    clear hb2 q1 q2 HC
    rcases hT with ⟨hne, rfl⟩ | ⟨h0, V', A', n', c', hV', hV16', rfl, hms⟩
    · have HF := Lib.hid (HE.out.trans (if_neg hne))
      have hne' : (takenE N' ds == 0) = false := by simpa using hne
      clear hne
      generalize takenE N' ds = er at *
      go_wp2
      go_ret2
      exact ⟨by rw [HF.out]; rfl, (HB2.out.alloc HB2.out.size _)⟩
    · subst hV'
      have HL' := Lib.hid (taken_ok h0).2.2.2.2
      have HF := Lib.hid (HE.out.trans (if_pos h0))
      have HMS' := Lib.hid hms
      clear hms h0
      obtain ⟨W2, hW2⟩ : ∃ W2, W2 = w2.alloc (.cells #[.int .i64 V', .slice A' n' c'] 73) := ⟨_, rfl⟩
      have HBY := Lib.hid (show Below w2.heap.size w2 W2 from hW2 ▸ ((Below.refl _ w2).alloc (Nat.le_refl _) _))
      have KU := Lib.hid (show Blk W2 w2.heap.size 73 #[.int .i64 V', .slice A' n' c'] from hW2 ▸ Blk.new w2 _ _)
      unfold frV
      go_upto_region 5 with (fail)
      rw [← hW2]
      have HW2 := Lib.hid (show W2.heap.size = w2.heap.size + 1 by rw [hW2]; simp)
      clear hW2
      have HBW2 := Lib.hid (below_then HB2.out HBY.out HB2.out.size)
      have HBX3 := Lib.hid (below_then HBX2.out HBY.out HBX2.out.size)
      have KT3 := Lib.hid (KT2.out.below HBY.out)
      have K04 := Lib.hid (K03.out.below HBY.out)
      have K14 := Lib.hid (K13.out.below HBY.out)
      have q1 : W2.cell? ⟨w.heap.size, 0, none⟩ = some (.int .i64 V) := K04.out.cell 0
      have q2 : W2.cell? ⟨w.heap.size + 1, 0, none⟩ = some (.int .i64 V') := K14.out.cell 0
      by_cases hVV : V = V'
      · subst hVV
        have HG := Lib.hid (HF.out.trans (if_pos rfl))
        obtain ⟨p, hp⟩ : ∃ p, p = unlikeF V cs ds := ⟨_, rfl⟩
        have HWANT := Lib.hid (show Want 53 #[] #[.pointer (some ⟨w1.heap.size, 0, none⟩), .pointer (some ⟨w2.heap.size, 0, none⟩)] (unlikeF V cs ds) (2 ^ V) W2 from
          ⟨enters_of Try.func53 (by kernel_rfl) rfl, fun k hk W hb =>
            ali_any (B := w2.heap.size) (Nat.le_trans HBY.out.size hb.size) V hV16 A n c cs (((HMS.out.below HBX2.out).up HBX2.out.size |>.below HBY.out).below (hb.mono HBY.out.size)) HL.out A' n' c' ds ((HMS'.out.below HBY.out).below (hb.mono HBY.out.size)) HL'.out w1.heap.size w2.heap.size (KT3.out.below hb) (KU.out.below hb) k hk⟩)
        have HC := Lib.hid (first_any V hV16 A n c 0 (Nat.zero_le _) 53 #[] #[.pointer (some ⟨w1.heap.size, 0, none⟩), .pointer (some ⟨w2.heap.size, 0, none⟩)] (unlikeF V cs ds) HWANT.out)
        rw [← hp] at HC HG
        rw [show 2 ^ V - 0 = 2 ^ V from rfl] at HC
        obtain ⟨F, hF⟩ : ∃ F, F = firstF p (2 ^ V) 0 := ⟨_, rfl⟩
        rw [← hF] at HC HG
        unfold frV at HC
        clear hF hp HWANT
        have t0 : W2.cell? ⟨w1.heap.size, 0, none⟩ = some (.int .i64 V) := KT3.out.cell 0
        have t1 : W2.cell? ⟨w1.heap.size, 1, none⟩ = some (.slice A n c) := KT3.out.cell 1
        go_wp2_with fail
        refine HC.out.mono ?_
        rintro e w5 ⟨rfl, hb5⟩
        have HB5 := Lib.hid (below_then HBW2.out hb5 HBW2.out.size)
        clear hb5 t0 t1 HC
        go_wp2
        go_ret2
        exact ⟨by rw [HG.out]; rfl, HB5.out⟩
      · have hn' : (V : Int) ≠ V' := by omega
        have HG := Lib.hid (HF.out.trans (if_neg hn'))
        clear hVV
        go_wp2
        go_ret2
        exact ⟨by rw [HG.out]; rfl, HBW2.out⟩
end Go.Proofs.Ytfpohiflpemkjaa.Tr
