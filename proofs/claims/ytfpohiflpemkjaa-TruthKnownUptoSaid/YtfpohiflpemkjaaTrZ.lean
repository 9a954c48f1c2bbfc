/- TruthGrows: the walk. -/
import Derived.Test.YtfpohiflpemkjaaTrY
namespace Go.Proofs.Ytfpohiflpemkjaa.Tr
open Go.RowKit Go.Proofs.Ytfpohiflpemkjaa.Mem Go.Proofs.Ytfpohiflpemkjaa.Sl Go.Proofs.Ytfpohiflpemkjaa.Cl Go.Proofs.Ytfpohiflpemkjaa.Mo Go.Shelf
open Go.Proofs.Ytfpohiflpemkjaa.FnL (Pred enc_at below_then)
set_option linter.unusedVariables false

theorem cls_own {w : World} {base n c : Nat} {t : TypeId} {A : Option Addr} {cs : List CV} {B : Nat} (h : App.Own w base t A n c (cs.map CV.v)) (hn : n ≤ 9223372036854775807) (hB : B ≤ w.heap.size) (ha : ∀ x, x ∈ cs → ClOk B w x) : ClsOk w.heap.size w A n cs :=
  ⟨by simpa using h.1, hn, h.rd, fun x hx => (ha x hx).up hB⟩
set_option maxRecDepth 100000 in
set_option maxHeartbeats 4000000 in
theorem grows_any {B : Nat} {w : World} (hB : B ≤ w.heap.size) (N : Int) (ca : Option Addr) (cn cc : Nat) (cs : List CV) (hcs : ClsOk B w ca cn cs) (hnil : ca = none → cc = 0) (x : CV) (hx : ClOk B w x) :
    Calls Try.prog 8 #[.agg #[.int .i64 N, .slice ca cn cc], x.v] w fun e w' => e = .returned (.bool true) ∧ Below w.heap.size w w' := by
  have HS := Lib.hid hB
  have HCS := Lib.hid hcs
  have HX := Lib.hid hx
  have HNL := Lib.hid hnil
  have HL := Lib.hid hcs.ln
  have hmx := hcs.mx
  obtain ⟨xa, xn, xc, l⟩ := x
  dsimp only [CV.v]
  have hxn : xn ≤ 9223372036854775807 := hx.mx
  have HXN := Lib.hid (show xn = l.length from hx.ln)
  clear hB hcs hx hnil
  obtain ⟨iC, hiC⟩ := Option.isSome_iff_exists.1 (show (Try.prog.info? 40).isSome = true by kernel_rfl)
  have hz : (Try.prog.info? 40).map (fun i => (i.zero, i.size, i.bytes)) = some (some (.slice none 0 0), 1, 24) := by kernel_rfl
  rw [hiC] at hz
  injection hz with hz
  injection hz with hz0 hz
  injection hz with hz1 hz2
  have HIC := Lib.hid hiC
  have HZ0 := Lib.hid hz0
  have HZ1 := Lib.hid hz1
  have HZ2 := Lib.hid hz2
  clear hiC hz0 hz1 hz2
  go_enter Try.func8, Try.ntmps8
  go_upto_region 1 with (fail)
  obtain ⟨W0, hW0⟩ : ∃ W0, W0 = w.alloc (.cells #[.int .i64 N, .slice ca cn cc] 34) := ⟨_, rfl⟩
  rw [← hW0]
  have HB0 := Lib.hid (show Below w.heap.size w W0 from hW0 ▸ ((Below.refl _ w).alloc (Nat.le_refl _) _))
  have K0 := Lib.hid (show Blk W0 w.heap.size 34 #[.int .i64 N, .slice ca cn cc] from hW0 ▸ Blk.new w _ _)
  have HW0 := Lib.hid (show W0.heap.size = w.heap.size + 1 by rw [hW0]; simp)
  clear hW0
  have KW := Lib.hid fun (w2 : World) (hb : Below W0.heap.size W0 w2) => (show w2.cell? ⟨w.heap.size, 0, none⟩ = some (.int .i64 N) ∧ w2.cell? ⟨w.heap.size, 1, none⟩ = some (.slice ca cn cc) from ⟨(K0.out.below hb).cell 0, (K0.out.below hb).cell 1⟩)
  have CB := Lib.hid fun (w2 : World) (hb : Below W0.heap.size W0 w2) => (show B ≤ w2.heap.size from Nat.le_trans HS.out (Nat.le_trans HB0.out.size hb.size))
  have CW := Lib.hid fun (w2 : World) (hb : Below W0.heap.size W0 w2) => (show ClsOk B w2 ca cn cs from HCS.out.below ((below_then HB0.out hb HB0.out.size).mono HS.out))
  have CX := Lib.hid fun (w2 : World) (hb : Below W0.heap.size W0 w2) => (show ClOk B w2 ⟨xa, xn, xc, l⟩ from HX.out.below ((below_then HB0.out hb HB0.out.size).mono HS.out))
  obtain ⟨q0, q1⟩ := KW.out W0 (Below.refl _ _)
  have HC := Lib.hid (small_any (CB.out W0 (Below.refl _ _)) N ca cn cc cs (CW.out W0 (Below.refl _ _)))
  go_wp2_with fail
  refine HC.out.mono ?_
  rintro e w1 ⟨⟨b, rfl, hsm⟩, hb1⟩
  have HB1 := Lib.hid hb1
  have HSM := Lib.hid hsm
  clear hb1 q0 q1 HC hsm
  cases b with
  | false =>
    go_wp2
    go_ret
    exact ⟨rfl, below_then HB0.out HB1.out HB0.out.size⟩
  | true =>
    have HSM2 := Lib.hid (HSM.out rfl)
    by_cases hx100 : 100 < xn
    · have hx101 : (100 : Int) < xn := by omega
      go_wp2
      go_ret
      exact ⟨rfl, below_then HB0.out HB1.out HB0.out.size⟩
    · have hx101 : ¬ (100 : Int) < xn := by omega
      have H100 := Lib.hid hx100
      obtain ⟨q0, q1⟩ := KW.out w1 HB1.out
      have HC := Lib.hid (Find_any (CB.out w1 HB1.out) N ca cn cc cs (CW.out w1 HB1.out))
      go_wp2_with fail
      clear hx100 hx101
      refine HC.out.mono ?_
      rintro e w2 ⟨hF, hb2⟩
      have HF := Lib.hid hF
      have HB2 := Lib.hid (below_then HB1.out hb2 HB1.out.size)
      clear hb2 q0 q1 HC hF
      obtain ⟨q0, q1⟩ := KW.out w2 HB2.out
      have HC := Lib.hid (Count_any (CB.out w2 HB2.out) N ca cn cc cs (CW.out w2 HB2.out))
      by_cases hne : takenE N cs = 0
      · obtain ⟨V, hV⟩ : ∃ V : Nat, N = V := ⟨N.toNat, by have := (taken_ok hne).2.1; omega⟩
        subst hV
        have HT := Lib.hid hne
        have hV16 : V ≤ 16 := by have := (taken_ok hne).2.2.1; omega
        have HCO := Lib.hid (show countS V cs = (countF (satB V cs) (2 ^ V) 0, 0) from if_pos hne)
        rw [HCO.out] at HC
        have HH300 := Lib.hid (HSM2.out.2 (taken_flat hne).1)
        have HCL := Lib.hid (countF_le (satB V cs) (2 ^ V) 0)
        obtain ⟨ct, hct⟩ : ∃ ct, ct = countF (satB V cs) (2 ^ V) 0 := ⟨_, rfl⟩
        rw [← hct] at HC
        have HCT := Lib.hid hct
        clear hct hne
        dsimp only at HC
        rcases find_law HT.out with ⟨k, hk, hf, hh, hp⟩ | ⟨hf, hz, hn⟩
        case' inl =>
          obtain ⟨A, c, rfl, hO⟩ := HF.out.get hf
          rw [modelB_length] at hO ⊢
          have HMD := Lib.hid (md_own hO (by omega))
          have hct0 : (0 : Int) < ct := by have := HCT.out ▸ hp; omega
          have HFIN := Lib.hid (show ∀ is : Bool, ((∀ k, k < 2 ^ V → satB V cs k = false) → is = true) → (true || is) = true from fun _ _ => rfl)
          clear hO hp hf
          go_wp2_with fail
          refine HC.out.mono ?_
          rintro e w3 ⟨rfl, hb3⟩
          have HB3 := Lib.hid (below_then HB2.out hb3 HB2.out.size)
          have HMD3 := Lib.hid ((HMD.out.below hb3).up hb3.size)
          clear hb3 q0 q1 HC
          obtain ⟨q0, q1⟩ := KW.out w3 HB3.out
          have HC := Lib.hid (Holds_any (B := w3.heap.size) (c := c) (cc := cc) (vars := V) (Nat.le_refl _) HMD3.out ((CW.out w3 HB3.out).up (CB.out w3 HB3.out)))
          rw [hh] at HC
          clear hh hk
          go_wp2_with fail
          refine HC.out.mono ?_
          rintro e wv ⟨rfl, hbv⟩
          have HBV := Lib.hid (below_then HB3.out hbv HB3.out.size)
          clear hbv q0 q1 HC HMD HMD3
        case' inr =>
          obtain ⟨A, c, rfl, hO⟩ := HF.out.get hf
          dsimp only [List.length_nil]
          have hct0 : ¬ (0 : Int) < ct := by have := HCT.out.trans hz; omega
          have HFIN := Lib.hid (show ∀ is : Bool, ((∀ k, k < 2 ^ V → satB V cs k = false) → is = true) → (false || is) = true from fun is h => h hn)
          clear hO hz hf hn
          go_wp2_with fail
          refine HC.out.mono ?_
          rintro e wv ⟨rfl, hbv⟩
          have HBV := Lib.hid (below_then HB2.out hbv HB2.out.size)
          clear hbv q0 q1 HC
        all_goals
          obtain ⟨q0, q1⟩ := KW.out wv HBV.out
          go_wp2_with fail
          clear q0 q1
          go_loopw [10] (fun i wr => ∃ j : Nat, j ≤ cn ∧ i = .int .i64 j ∧ Below W0.heap.size W0 wr) (fun i _ => cn - (intOf i).toNat)
          case atStart => exact ⟨0, Nat.zero_le _, rfl, HBV.out⟩
          case round =>
            obtain ⟨j, hj, rfl, hb⟩ := hrel
            have HB := Lib.hid hb
            obtain ⟨q0, q1⟩ := KW.out wr hb
            clear hb
            by_cases hlt : j < cn
            · have hkl : j < cs.length := by rw [← HL.out]; exact hlt
              obtain ⟨b, off, ha, _, hc⟩ := RdV.at_ ((CW.out wr HB.out).rd.rd (CB.out wr HB.out)) (enc_at (enc := CV.v) hkl)
              subst ha
              have HBB := Lib.hid (show ∀ w6, Below wr.drew.heap.size wr.drew w6 → Below wr.heap.size wr w6 from fun w6 h => ⟨h.os, h.tape, h.output, h.size, h.block⟩)
              have HDR := Lib.hid (show Below W0.heap.size W0 wr.drew from HB.out.drew)
              have HC := Lib.hid (Implies_any (w := wr.drew) (CB.out wr.drew HDR.out) V (some ⟨b, off, none⟩) cn cc cs (CW.out wr.drew HDR.out) _ ((CW.out wr.drew HDR.out).all _ (List.getElem_mem hkl)))
              rw [own_law HT.out _ (List.getElem_mem hkl)] at HC
              generalize cs[j]'hkl = y at *
              obtain ⟨A1, n1, c1, l1⟩ := y
              dsimp only [CV.v] at hc HC
              clear hkl
              go_upto_region 12 with (fail)
              go_region_law (first
                | (go_simp; go_at_call 28; refine HC.out.mono ?_; rintro e w6 ⟨rfl, hb6⟩; have HB6 := Lib.hid hb6; clear hb6))
              all_goals
                have HB7 := Lib.hid (below_then HB.out (HBB.out _ HB6.out) HB.out.size)
                go_wp2
                go_roundw
                case rel => exact ⟨j + 1, by omega, by go_num, HB7.out⟩
                case measure => simp [intOf]; omega
            · have HC := Lib.hid (Implies_any (CB.out wr HB.out) V ca cn cc cs (CW.out wr HB.out) _ (CX.out wr HB.out))
              dsimp only [CV.v] at HC
              by_cases hi : (impliesS V cs l).2 = 0
              · obtain ⟨is, hie, hce, hae, hle, hiff, hnone⟩ := more_law (x := ⟨xa, xn, xc, l⟩) HT.out (by rw [← HL.out]; exact HSM2.out.1) HH300.out (by have := H100.out; have := HXN.out; show l.length ≤ 100; omega) hi
                dsimp only at hie
                rw [hie] at HC
                have HFIN2 := Lib.hid (HFIN.out is hnone)
                obtain ⟨c2, hc2⟩ : ∃ c2, c2 = countF (satB V (cs ++ [⟨xa, xn, xc, l⟩])) (2 ^ V) 0 := ⟨_, rfl⟩
                rw [← hc2] at hce hle hiff
                rw [← HCT.out] at hle hiff
                have HCE := Lib.hid hce
                have HAE := Lib.hid hae
                have HLE := Lib.hid (show (c2 : Int) ≤ ct by omega)
                have HEQ := Lib.hid (show ((c2 : Int) == ct) = is by
                  cases is with
                  | true => rw [hiff.1 rfl]; simp
                  | false =>
                    rw [beq_eq_false_iff_ne]
                    intro h
                    exact absurd (hiff.2 (by omega)) (by decide))
                clear hi hie hce hae hle hiff hnone hc2
                go_wp2_with fail
                refine HC.out.mono ?_
                rintro e w3 ⟨rfl, hb3⟩
                have HB3 := Lib.hid (below_then HB.out hb3 HB.out.size)
                clear hb3 q0 q1 HC
                obtain ⟨q0, q1⟩ := KW.out w3 HB3.out
                go_upto_region 19 with (fail)
                obtain ⟨W4, hW4⟩ : ∃ W4, W4 = w3.alloc (.cells #[.int .i64 V, .slice none 0 0] 34) := ⟨_, rfl⟩
                rw [← hW4]
                have HB4 := Lib.hid (show Below W0.heap.size W0 W4 from hW4 ▸ (HB3.out.alloc HB3.out.size _))
                have KG := Lib.hid (show Blk W4 w3.heap.size 34 #[.int .i64 V, .slice none 0 0] from hW4 ▸ Blk.new w3 _ _)
                have HW4 := Lib.hid (show W4.heap.size = w3.heap.size + 1 by rw [hW4]; simp)
                have HGE := Lib.hid (show W0.heap.size ≤ w3.heap.size from HB3.out.size)
                clear hW4 q0 q1
                obtain ⟨q0, q1⟩ := KW.out W4 HB4.out
                generalize w3.heap.size = g at *
                have r0 : W4.cell? ⟨g, 0, none⟩ = some (.int .i64 V) := KG.out.cell 0
                have r1 : W4.cell? ⟨g, 1, none⟩ = some (.slice none 0 0) := KG.out.cell 1
                have hcn60 : cn ≤ 60 := HSM2.out.1
                have HA1 := Lib.hid fun (v' : Value) (w5 : World) (hown : w5.ownsRow W4.heap.size 40 1 v' (0 + cn) ([] ++ cs.map CV.v)) (hgrow : W4.grownBy w5 (Value.slice none 0 0).ownBlock) =>
                  (show ∃ A1 c1, v' = .slice A1 cn c1 ∧ w5.cell? ⟨g, 1, none⟩ = some (.slice none 0 0) ∧ w5.frozen? ⟨g, 1, none⟩ = false ∧
                    Hid (App.Own (w5.setCell ⟨g, 1, none⟩ (.slice A1 cn c1)) W4.heap.size 40 A1 cn c1 (cs.map CV.v) ∧ Blk (w5.setCell ⟨g, 1, none⟩ (.slice A1 cn c1)) g 34 #[.int .i64 V, .slice A1 cn c1] ∧ Below W0.heap.size W0 (w5.setCell ⟨g, 1, none⟩ (.slice A1 cn c1)) ∧ W4.heap.size ≤ (w5.setCell ⟨g, 1, none⟩ (.slice A1 cn c1)).heap.size) from by
                    rw [Nat.zero_add, List.nil_append] at hown
                    obtain ⟨A1, c1, rfl, hO⟩ := App.Own.of hown
                    have hm := Mod.grown hgrow
                    have hk := KG.out.mod hm (by intro h; cases h)
                    refine ⟨A1, c1, rfl, hk.cell 1, hk.frozen 1, Lib.hid ⟨?_, ?_, ?_, ?_⟩⟩
                    · exact hO.mod (Mod.setCell (Mod.refl (fun i => i = g) w5) (p := ⟨g, 1, none⟩) (.inl rfl) _) (fun i hi _ h => by have := HW4.out; omega)
                    · simpa using hk.set_ 1 (.slice A1 cn c1)
                    · exact (HB4.out.trans (hm.below (fun i _ h => by cases h) HB4.out.size)).setCell (p := ⟨g, 1, none⟩) HGE.out _
                    · have := hm.size
                      simp [World.setCell]
                      omega)
                have HNLX := HNL.out
                go_upto_region 20 with (at_builtin; refine App.wpList_app rfl _ _ 32 rfl W4.heap.size 40 iC (.slice none 0 0) 24 Try.underlying32 HIC.out HZ0.out HZ1.out HZ2.out rfl (.slice none 0 0) 0 [] rfl (App.Own.nil W4 W4.heap.size 40).own ca cn cc (cs.map CV.v) rfl (by simpa using (CW.out W4 HB4.out).ln) ((CW.out W4 HB4.out).rd.rd (CB.out W4 HB4.out)) HNLX (fun u hu => by obtain ⟨z, _, rfl⟩ := List.mem_map.1 hu; rfl) (by unfold maxLen; omega) (by omega) (Nat.le_refl _) ?_; intro v' w5 hown hgrow; obtain ⟨A1, c1, rfl, r2, r3, HY⟩ := HA1.out v' w5 hown hgrow; clear hown hgrow r0 r1 q0 q1)
                obtain ⟨w6, hw6⟩ : ∃ w6, w6 = w5.setCell ⟨g, 1, none⟩ (.slice A1 cn c1) := ⟨_, rfl⟩
                rw [← hw6] at HY ⊢
                obtain ⟨hO6, hK6, hB6, hG6⟩ := HY.out
                have HO6 := Lib.hid hO6
                have HK6 := Lib.hid hK6
                have HB6 := Lib.hid hB6
                have HG6 := Lib.hid hG6
                clear hw6 HY hO6 hK6 hB6 hG6 r2 r3 HA1 HNLX
                have r1 : w6.cell? ⟨g, 1, none⟩ = some (.slice A1 cn c1) := HK6.out.cell 1
                have HB7 := Lib.hid (show Below W0.heap.size W0 (w6.alloc (.cells #[.slice xa xn xc] 40)) from HB6.out.alloc HB6.out.size _)
                have HO7 := Lib.hid (HO6.out.alloc (.cells #[.slice xa xn xc] 40))
                have HK7 := Lib.hid (HK6.out.alloc (.cells #[.slice xa xn xc] 40))
                have HB46 := Lib.hid (show W4.heap.size ≤ (w6.alloc (.cells #[.slice xa xn xc] 40)).heap.size by have := HG6.out; rw [World.size_alloc]; omega)
                have HA2 := Lib.hid fun (v' : Value) (w8 : World) (hown : w8.ownsRow W4.heap.size 40 1 v' (cn + 1) (cs.map CV.v ++ [.slice xa xn xc])) (hgrow : (w6.alloc (.cells #[.slice xa xn xc] 40)).grownBy w8 (Value.slice A1 cn c1).ownBlock) =>
                  (show ∃ A2 c2, v' = .slice A2 (cn + 1) c2 ∧ w8.cell? ⟨g, 1, none⟩ = some (.slice A1 cn c1) ∧ w8.frozen? ⟨g, 1, none⟩ = false ∧
                    Hid (App.Own (w8.setCell ⟨g, 1, none⟩ (.slice A2 (cn + 1) c2)) W4.heap.size 40 A2 (cn + 1) c2 (cs.map CV.v ++ [.slice xa xn xc]) ∧ Blk (w8.setCell ⟨g, 1, none⟩ (.slice A2 (cn + 1) c2)) g 34 #[.int .i64 V, .slice A2 (cn + 1) c2] ∧ Below W0.heap.size W0 (w8.setCell ⟨g, 1, none⟩ (.slice A2 (cn + 1) c2))) from by
                    obtain ⟨A2, c2, rfl, hO⟩ := App.Own.of hown
                    have hm := Mod.grown hgrow
                    have hbl : ∀ i, some i = (Value.slice A1 cn c1).ownBlock → W4.heap.size ≤ i := fun i h => HO7.out.block h
                    have hk := HK7.out.mod hm (by intro h; have := hbl g h; have := HW4.out; omega)
                    refine ⟨A2, c2, rfl, hk.cell 1, hk.frozen 1, Lib.hid ⟨?_, ?_, ?_⟩⟩
                    · exact hO.mod (Mod.setCell (Mod.refl (fun i => i = g) w8) (p := ⟨g, 1, none⟩) (.inl rfl) _) (fun i hi _ h => by have := HW4.out; omega)
                    · simpa using hk.set_ 1 (.slice A2 (cn + 1) c2)
                    · exact (HB7.out.trans (hm.below (fun i _ h => by have := hbl i h; have := HB4.out.size; omega) HB7.out.size)).setCell (p := ⟨g, 1, none⟩) HGE.out _)
                go_upto_region 21 with (at_builtin; refine App.wpList_app rfl _ _ 32 rfl W4.heap.size 40 iC (.slice none 0 0) 24 Try.underlying32 HIC.out HZ0.out HZ1.out HZ2.out rfl (.slice A1 cn c1) cn (cs.map CV.v) rfl HO7.out.own (some ⟨w6.heap.size, 0, none⟩) 1 1 [.slice xa xn xc] rfl rfl (RdV.blk (rest := []) (Blk.new w6 40 #[.slice xa xn xc])) (fun h => by cases h) (fun u hu => by simp at hu; subst hu; rfl) (by unfold maxLen; omega) (by omega) HB46.out ?_; intro v' w8 hown hgrow; obtain ⟨A2, c2', rfl, r2, r3, HY⟩ := HA2.out v' w8 hown hgrow; clear hown hgrow)
                obtain ⟨w9, hw9⟩ : ∃ w9, w9 = w8.setCell ⟨g, 1, none⟩ (.slice A2 (cn + 1) c2') := ⟨_, rfl⟩
                rw [← hw9] at HY ⊢
                obtain ⟨hO9, hK9, hB9⟩ := HY.out
                have HB9 := Lib.hid hB9
                have HK9 := Lib.hid hK9
                have HM9 := Lib.hid (cls_own (cs := cs ++ [⟨xa, xn, xc, l⟩]) (B := B) (by rw [List.map_append]; exact hO9) (by omega) (CB.out w9 hB9) (fun z hz => by
                  rcases List.mem_append.1 hz with hz | hz
                  · exact (CW.out w9 hB9).all z hz
                  · obtain rfl := List.mem_singleton.1 hz
                    exact CX.out w9 hB9))
                clear hw9 HY hO9 hK9 hB9 r2 r3 r1 HA2
                obtain ⟨q0, q1⟩ := KW.out w9 HB9.out
                have r0 : w9.cell? ⟨g, 0, none⟩ = some (.int .i64 V) := HK9.out.cell 0
                have r1 : w9.cell? ⟨g, 1, none⟩ = some (.slice A2 (cn + 1) c2') := HK9.out.cell 1
                have HC := Lib.hid (Count_any (Nat.le_refl _) V A2 (cn + 1) c2' _ HM9.out)
                rw [HCE.out] at HC
                dsimp only at HC
                go_wp2_with fail
                refine HC.out.mono ?_
                rintro e w10 ⟨rfl, hb10⟩
                have HB10 := Lib.hid (below_then HB9.out hb10 HB9.out.size)
                have HK10 := Lib.hid (HK9.out.below hb10)
                have HM10 := Lib.hid ((HM9.out.below hb10).up hb10.size)
                clear hb10 q0 q1 r0 r1 HC
                obtain ⟨q0, q1⟩ := KW.out w10 HB10.out
                have r0 : w10.cell? ⟨g, 0, none⟩ = some (.int .i64 V) := HK10.out.cell 0
                have r1 : w10.cell? ⟨g, 1, none⟩ = some (.slice A2 (cn + 1) c2') := HK10.out.cell 1
                have HC := Lib.hid (Alike_any (B := w10.heap.size) (Nat.le_refl _) V ca cn cc cs ((CW.out w10 HB10.out).up (CB.out w10 HB10.out)) V A2 (cn + 1) c2' _ HM10.out)
                rw [HAE.out] at HC
                dsimp only at HC
                go_wp2_with fail
                refine HC.out.mono ?_
                rintro e w11 ⟨rfl, hb11⟩
                have HB11 := Lib.hid (below_then HB10.out hb11 HB10.out.size)
                clear hb11 q0 q1 r0 r1 HC
                have hle := HLE.out
                have heq := HEQ.out
                have HC := Lib.hid (works_any w11)
                cases is with
                | true =>
                  go_wp2_with fail
                  refine HC.out.mono ?_
                  rintro e w12 ⟨rfl, hb12⟩
                  have HB12 := Lib.hid (below_then HB11.out hb12 HB11.out.size)
                  clear hb12 HC
                  go_wp2
                  go_ret
                  exact ⟨rfl, below_then HB0.out HB12.out HB0.out.size⟩
                | false =>
                  first
                    | exact absurd (show (false || false) = true from HFIN2.out) (by decide)
                    | (go_wp2_with fail
                       refine HC.out.mono ?_
                       rintro e w12 ⟨rfl, hb12⟩
                       have HB12 := Lib.hid (below_then HB11.out hb12 HB11.out.size)
                       clear hb12 HC
                       go_wp2
                       go_ret
                       exact ⟨rfl, below_then HB0.out HB12.out HB0.out.size⟩)
              · have hi' : ((impliesS V cs l).2 == 0) = false := by simpa using hi
                clear hi
                generalize (impliesS V cs l).1 = i1 at *
                generalize (impliesS V cs l).2 = i2 at *
                go_wp2_with fail
                refine HC.out.mono ?_
                rintro e w3 ⟨rfl, hb3⟩
                have HB3 := Lib.hid (below_then HB.out hb3 HB.out.size)
                clear hb3 q0 q1 HC
                have HC := Lib.hid (works_any w3)
                go_wp2_with fail
                refine HC.out.mono ?_
                rintro e w4 ⟨rfl, hb4⟩
                have HB4 := Lib.hid (below_then HB3.out hb4 HB3.out.size)
                clear hb4 HC
                go_wp2
                go_ret
                exact ⟨rfl, below_then HB0.out HB4.out HB0.out.size⟩
      · have HE := Lib.hid (show findS N cs = ([], false, takenE N cs) from if_neg hne)
        have HE2 := Lib.hid (show countS N cs = (0, takenE N cs) from if_neg hne)
        obtain ⟨A, c, rfl, _⟩ := HF.out.get HE.out
        rw [HE2.out] at HC
        have hne' : (takenE N cs == 0) = false := by simpa using hne
        clear hne HE HE2
        generalize takenE N cs = er at *
        dsimp only [List.length_nil] at HC ⊢
        go_wp2_with fail
        refine HC.out.mono ?_
        rintro e w3 ⟨rfl, hb3⟩
        have HB3 := Lib.hid (below_then HB2.out hb3 HB2.out.size)
        clear hb3 q0 q1 HC
        have HC := Lib.hid (works_any w3)
        go_wp2_with fail
        refine HC.out.mono ?_
        rintro e w4 ⟨rfl, hb4⟩
        have HB4 := Lib.hid (below_then HB3.out hb4 HB3.out.size)
        clear hb4 HC
        go_wp2
        go_ret
        exact ⟨rfl, below_then HB0.out HB4.out HB0.out.size⟩
end Go.Proofs.Ytfpohiflpemkjaa.Tr
