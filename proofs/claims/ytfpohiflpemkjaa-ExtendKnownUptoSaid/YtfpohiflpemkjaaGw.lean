/- The walk of ExtendGood at whatever memory. -/
import Derived.Test.YtfpohiflpemkjaaGd
import Derived.Deep.CutRange
namespace Go.Proofs.Ytfpohiflpemkjaa.Ex
open Go.RowKit Go.Proofs.Ytfpohiflpemkjaa.Mem Go.Proofs.Ytfpohiflpemkjaa.Sl Go.Proofs.Ytfpohiflpemkjaa.Cl Go.Proofs.Ytfpohiflpemkjaa.App Go.Proofs.Ytfpohiflpemkjaa.Mo Go.Shelf
open Go.Proofs.Ytfpohiflpemkjaa.FnL (Pred enc_at below_then)
set_option linter.unusedVariables false

/-- A row of ints that can be read below B. -/
structure IsOk (B : Nat) (w : World) (a : Option Addr) (n : Nat) (l : List Int) : Prop where
  ln : n = l.length
  mx : n ≤ 9223372036854775807
  rd : RdB B w a (l.map (Value.int .i64))
  lb : ∀ y, y ∈ l → -9223372036854775808 ≤ y ∧ y ≤ 9223372036854775807
theorem IsOk.below {B : Nat} {w w' : World} {a : Option Addr} {n : Nat} {l : List Int} (h : IsOk B w a n l) (hb : Below B w w') : IsOk B w' a n l := ⟨h.ln, h.mx, h.rd.below hb, h.lb⟩
/-- What holds between two rounds of the first loop. -/
structure LR (base V : Nat) (F ls : List CV) (W0 wr : World) (k : Nat) (LA : Option Addr) (Ln Lc : Nat) (SA : Option Addr) (Sn Sc : Nat) (L : List CV) (St : List WV) : Prop where
  left : App.Own wr base 40 LA Ln Lc (L.map CV.v)
  stk : wr.ownsRow base 42 2 (.slice SA Sn Sc) Sn (flatW St)
  gi : GI F V L St
  mem : ∀ x, x ∈ St → x.l ∈ ls ∧ x.c ∈ F
  l12 : Ln ≤ 12
  sk : Sn ≤ k
  bl : Below W0.heap.size W0 wr
set_option maxRecDepth 100000 in
set_option maxHeartbeats 8000000 in
theorem goodlaw_any {B : Nat} {w : World} (hB : B ≤ w.heap.size) (vars : Int) (fa : Option Addr) (fn fc : Nat) (F : List CV) (hF : ClsOk B w fa fn F) (hFn : fa = none → fc = 0) (pa : Option Addr) (pn pc : Nat) (ps : List Int) (hps : IsOk B w pa pn ps) (la : Option Addr) (ln lc : Nat) (ls : List CV) (hls : ClsOk B w la ln ls) :
    Calls Try.prog 4 #[.agg #[.int .i64 vars, .slice fa fn fc], .slice pa pn pc, .slice la ln lc] w fun e w' => e = .returned (.bool true) ∧ Below w.heap.size w w' := by
  have HS := Lib.hid hB
  have HF := Lib.hid hF
  have HFN := Lib.hid hFn
  have HP := Lib.hid hps
  have HLS := Lib.hid hls
  have hfn := hF.mx
  have hpn := hps.mx
  have hln := hls.mx
  clear hB hF hFn hps hls
  go_enter Try.func4, Try.ntmps4
  go_upto_region 1 with (fail)
  obtain ⟨W0, hW0⟩ : ∃ W0, W0 = w.alloc (.cells #[.int .i64 vars, .slice fa fn fc] 34) := ⟨_, rfl⟩
  rw [← hW0]
  have HB0 := Lib.hid (show Below w.heap.size w W0 from hW0 ▸ ((Below.refl _ w).alloc (Nat.le_refl _) _))
  have HW0 := Lib.hid (show W0.heap.size = w.heap.size + 1 by rw [hW0]; simp)
  have K0 := Lib.hid (show Blk W0 w.heap.size 34 #[.int .i64 vars, .slice fa fn fc] from hW0 ▸ Blk.new w _ _)
  clear hW0
  have q1 : W0.cell? ⟨w.heap.size, 0, none⟩ = some (.int .i64 vars) := K0.out.cell 0
  have q2 : W0.cell? ⟨w.heap.size, 1, none⟩ = some (.slice fa fn fc) := K0.out.cell 1
  have HC := Lib.hid (small_any (Nat.le_trans HS.out HB0.out.size) vars fa fn fc F (HF.out.below (HB0.out.mono HS.out)) 6 12 60)
  go_wp2_with fail
  refine HC.out.mono ?_
  rintro e w1 ⟨⟨b, rfl, hb⟩, hb1⟩
  have HB1 := Lib.hid (below_then HB0.out hb1 HB0.out.size)
  have K1 := Lib.hid (K0.out.below hb1)
  clear hb1 HC q1 q2
  have q1 : w1.cell? ⟨w.heap.size, 0, none⟩ = some (.int .i64 vars) := K1.out.cell 0
  have q2 : w1.cell? ⟨w.heap.size, 1, none⟩ = some (.slice fa fn fc) := K1.out.cell 1
  have HWK := Lib.hid (works_any w1)
  cases b with
  | false =>
    clear hb
    go_wp2_with fail
    refine HWK.out.mono ?_
    rintro e w2 ⟨rfl, hb2⟩
    have HB2 := Lib.hid (below_then HB1.out hb2 HB1.out.size)
    clear hb2
    go_wp2
    go_ret
    exact ⟨rfl, HB2.out⟩
  | true =>
    obtain ⟨hv6, hf12⟩ := hb rfl
    clear hb
    have hf12 : fn ≤ 12 := by omega
    by_cases hv0 : vars < 0
    · go_wp2_with fail
      refine HWK.out.mono ?_
      rintro e w2 ⟨rfl, hb2⟩
      have HB2 := Lib.hid (below_then HB1.out hb2 HB1.out.size)
      clear hb2
      go_wp2
      go_ret
      exact ⟨rfl, HB2.out⟩
    · obtain ⟨V, rfl⟩ : ∃ V : Nat, vars = V := ⟨vars.toNat, by omega⟩
      have hV6 : V ≤ 6 := by omega
      have HS1 := Lib.hid (Nat.le_trans HS.out HB1.out.size)
      have HR1 := Lib.hid (rights_any HS1.out fa fn fc F (HF.out.below (HB1.out.mono HS.out)) V)
      have HR2 := Lib.hid (rights_any HS1.out la ln lc ls (HLS.out.below (HB1.out.mono HS.out)) V)
      clear hv0 hv6
      go_wp2_with fail
      refine HR1.out.mono ?_
      rintro e w1 ⟨rfl, rfl⟩
      cases hr1 : rightsB (V : Int) F with
      | false =>
        clear hr1
        go_wp2_with fail
        refine HWK.out.mono ?_
        rintro e w2 ⟨rfl, hb2⟩
        have HB2 := Lib.hid (below_then HB1.out hb2 HB1.out.size)
        clear hb2
        go_wp2
        go_ret
        exact ⟨rfl, HB2.out⟩
      | true =>
        have HRF := Lib.hid hr1
        clear hr1
        go_wp2_with fail
        refine HR2.out.mono ?_
        rintro e w1 ⟨rfl, rfl⟩
        cases hr2 : rightsB (V : Int) ls with
        | false =>
          clear hr2
          go_wp2_with fail
          refine HWK.out.mono ?_
          rintro e w2 ⟨rfl, hb2⟩
          have HB2 := Lib.hid (below_then HB1.out hb2 HB1.out.size)
          clear hb2
          go_wp2
          go_ret
          exact ⟨rfl, HB2.out⟩
        | true =>
          have HRL := Lib.hid hr2
          clear hr2
          by_cases hp12 : 12 < pn
          · go_wp2_with fail
            refine HWK.out.mono ?_
            rintro e w2 ⟨rfl, hb2⟩
            have HB2 := Lib.hid (below_then HB1.out hb2 HB1.out.size)
            clear hb2
            go_wp2
            go_ret
            exact ⟨rfl, HB2.out⟩
          · have hp12 : pn ≤ 12 := by omega
            obtain ⟨i0, hi⟩ := Option.isSome_iff_exists.1 (show (Try.prog.info? 40).isSome = true by kernel_rfl)
            have hz : (Try.prog.info? 40).map (fun i => (i.zero, i.size, i.bytes)) = some (some (.slice none 0 0), 1, 24) := by kernel_rfl
            rw [hi] at hz
            injection hz with hz
            injection hz with hz0 hz
            injection hz with hz1 hz2
            have HI := Lib.hid hi
            have HZ0 := Lib.hid hz0
            have HZ1 := Lib.hid hz1
            have HZ2 := Lib.hid hz2
            clear hi hz0 hz1 hz2 HWK HR1 HR2
            obtain ⟨iW, hi⟩ := Option.isSome_iff_exists.1 (show (Try.prog.info? 42).isSome = true by kernel_rfl)
            have hz : (Try.prog.info? 42).map (fun i => (i.zero, i.size, i.bytes)) = some (some (.agg #[.slice none 0 0, .slice none 0 0]), 2, 48) := by kernel_rfl
            rw [hi] at hz
            injection hz with hz
            injection hz with hz0 hz
            injection hz with hz1 hz2
            have HIW := Lib.hid hi
            have HZW0 := Lib.hid hz0
            have HZW1 := Lib.hid hz1
            have HZW2 := Lib.hid hz2
            clear hi hz0 hz1 hz2
            have HF1 := Lib.hid (HF.out.below (HB1.out.mono HS.out))
            have HOW := Lib.hid fun (v' : Value) (w2 : World) (hown : w2.ownsRow w1.heap.size 40 1 v' (0 + fn) ([] ++ F.map CV.v)) => Own.of (by rwa [Nat.zero_add, List.nil_append] at hown)
            go_upto_block 0 with (at_builtin; refine wpList_app rfl _ _ 32 rfl w1.heap.size 40 i0 (.slice none 0 0) 24 Try.underlying32 HI.out HZ0.out HZ1.out HZ2.out rfl (.slice none 0 0) 0 [] rfl (World.ownsRow_nil _ _ _ _) fa fn fc (F.map CV.v) rfl (by simpa using HF1.out.ln) (HF1.out.rd.rd HS1.out) HFN.out (fun u hu => by obtain ⟨x, _, rfl⟩ := List.mem_map.1 hu; rfl) (by unfold maxLen; omega) (by omega) (Nat.le_refl _) ?_; intro v' w2 hown hgrow; obtain ⟨A, c', rfl, hO⟩ := HOW.out v' w2 hown; have HO := Lib.hid hO; have HBX := Lib.hid (show Below w1.heap.size w1 w2 from (Mod.grown hgrow).below (fun i _ e => by cases e) (Nat.le_refl _)); clear hown hgrow hO)
            go_cut [7, 8] from 17 (fun l s wx => ∃ (k : Nat) (LA : Option Addr) (Ln Lc : Nat) (SA : Option Addr) (Sn Sc : Nat) (L : List CV) (St : List WV), k ≤ 12 ∧ l = .slice LA Ln Lc ∧ s = .slice SA Sn Sc ∧ LR w1.heap.size V F ls w1 wx k LA Ln Lc SA Sn Sc L St)
            case first =>
              go_wp2_with fail
              go_loopg [7, 8, 9] pn (fun N l s i wx => ∃ (k : Nat) (LA : Option Addr) (Ln Lc : Nat) (SA : Option Addr) (Sn Sc : Nat) (L : List CV) (St : List WV), N + k = pn ∧ i = .int .i64 k ∧ l = .slice LA Ln Lc ∧ s = .slice SA Sn Sc ∧ LR w1.heap.size V F ls w1 wx k LA Ln Lc SA Sn Sc L St)
              case atStart => exact ⟨0, A, fn, c', none, 0, 0, F, [], rfl, rfl, rfl, rfl, HO.out, World.ownsRow_nil _ _ _ _, GI.start F V, fun x h => (by cases h), hf12, Nat.le_refl _, HBX.out⟩
              case round =>
                clear HO HBX
                obtain ⟨k, LA, Ln, Lc, SA, Sn, Sc, L, St, hk, rfl, rfl, rfl, hR⟩ := hrel
                have HR := Lib.hid hR
                have hl12 := hR.l12
                clear hR
                by_cases h1 : k < pn
                · by_cases h2 : k < ln
                  · by_cases h3 : 0 < Ln
                    · obtain ⟨g, hg, hbg, hrow⟩ := HR.out.left.row h3
                      subst hg
                      have hLL : L.length = Ln := by have := HR.out.left.1; simpa using this.symm
                      have hLc := hrow.le
                      rw [List.length_map, hLL] at hLc
                      have HBW := Lib.hid (below_then HB1.out HR.out.bl HB1.out.size)
                      have HBS := Lib.hid (Nat.le_trans HS.out HBW.out.size)
                      have hkp : k < ps.length := by rw [← HP.out.ln]; exact h1
                      obtain ⟨b1, o1, ha1, _, hc1⟩ := RdV.at_ ((HP.out.below (HBW.out.mono HS.out)).rd.rd HBS.out) (enc_at (enc := Value.int .i64) hkp)
                      subst ha1
                      have hlb := HP.out.lb _ (List.getElem_mem hkp)
                      generalize ps[k]'hkp = y at *
                      have HPK := Lib.hid (pick_any y hlb.1 hlb.2 Ln h3 (by omega) wr)
                      have HROW := Lib.hid hrow
                      have HBG := Lib.hid hbg
                      have HLL := Lib.hid hLL
                      clear hkp hlb hrow hbg hLL
                      go_wp2_with fail
                      refine HPK.out.mono ?_
                      rintro e w2 ⟨⟨p, hp, rfl⟩, rfl⟩
                      have HOW1 := Lib.hid fun (v' : Value) (w2 : World) (hown : w2.ownsRow wr.heap.size 40 1 v' (0 + p) ([] ++ (L.map CV.v).take p)) => Own.of (by rwa [Nat.zero_add, List.nil_append] at hown)
                      go_upto_region 12 with (at_builtin; refine wpList_app rfl _ _ 32 rfl wr.heap.size 40 i0 (.slice none 0 0) 24 Try.underlying32 HI.out HZ0.out HZ1.out HZ2.out rfl (.slice none 0 0) 0 [] rfl (World.ownsRow_nil _ _ _ _) (some ⟨g, 0, none⟩) p Lc ((L.map CV.v).take p) rfl (by rw [List.length_take, List.length_map, HLL.out]; omega) (HROW.out.rd.take p) (fun h => by cases h) (fun u hu => by obtain ⟨x, _, rfl⟩ := List.mem_map.1 (List.mem_of_mem_take hu); rfl) (by unfold maxLen; omega) (by omega) (Nat.le_refl _) ?_; intro v' w3 hown hgrow; obtain ⟨A1, c1, rfl, hO⟩ := HOW1.out v' w3 hown; have HO1 := Lib.hid hO; have HBX := Lib.hid (show Below wr.heap.size wr w3 from (Mod.grown hgrow).below (fun i _ e => by cases e) (Nat.le_refl _)); clear hown hgrow hO)
                      have e1 : IntKind.i64.wrap ((p : Int) + 1) = (p : Int) + 1 := IntWalk.i64_in _ (by omega)
                      have HROW3 := Lib.hid (HROW.out.below HBX.out)
                      have HBW3 := Lib.hid (below_then HBW.out HBX.out HBW.out.size)
                      have HRL := Lib.hid (show L.take p ++ L.drop (p + 1) = (L.take p ++ L.drop (p + 1)) from rfl)
                      have HOW2 := Lib.hid fun (v' : Value) (w2 : World) (m : Nat) (xs : List Value) (hown : w2.ownsRow wr.heap.size 40 1 v' (p + m) ((L.map CV.v).take p ++ xs)) (hm : p + m = Ln - 1) (hx : xs = (L.map CV.v).drop (p + 1)) => (show ∃ A c, v' = .slice A (Ln - 1) c ∧ App.Own w2 wr.heap.size 40 A (Ln - 1) c ((L.take p ++ L.drop (p + 1)).map CV.v) by
                        rw [hm, hx, ← List.map_take, ← List.map_drop, ← List.map_append] at hown
                        exact Own.of hown)
                      go_cut [11] from 50 to 111 (fun r wx => ∃ A2 c2, r = .slice A2 (Ln - 1) c2 ∧ App.Own wx wr.heap.size 40 A2 (Ln - 1) c2 ((L.take p ++ L.drop (p + 1)).map CV.v) ∧ Below wr.heap.size wr wx)
                      case first =>
                        by_cases hcl : p + 1 = Lc
                        · subst hcl
                          have HPL := Lib.hid (show Ln = p + 1 by omega)
                          go_wp2_with (at_builtin; go_loud (refine wpList_app rfl _ _ 32 rfl wr.heap.size 40 i0 (.slice none 0 0) 24 Try.underlying32 HI.out HZ0.out HZ1.out HZ2.out rfl (.slice A1 p c1) p ((L.map CV.v).take p) rfl HO1.out.own (some ⟨g, 0, none⟩) _ _ [] rfl (by first | rfl | (have := HPL.out; show _ = 0; omega)) (RdV.nil _ _) (fun h => by cases h) (fun u hu => by cases hu) (by unfold maxLen; omega) (by omega) HBX.out.size ?_; intro v' w4 hown hgrow; obtain ⟨A2, c2, rfl, hO⟩ := HOW2.out v' w4 _ [] hown (by omega) (by rw [List.drop_of_length_le (by rw [List.length_map, HLL.out]; have := HPL.out; omega)]); have HO2 := Lib.hid hO; have HBY := Lib.hid (show Below wr.heap.size wr w4 from HBX.out.trans ((Mod.grown hgrow).below (fun i _ e => HO1.out.block e) HBX.out.size)); clear hown hgrow hO))
                          go_meet
                          case rel => exact ⟨A2, c2, rfl, HO2.out, HBY.out⟩
                        · have hdr : RdV w3 (some ⟨g, p + 1, none⟩) ((L.map CV.v).drop (p + 1)) := fun hpos => by
                            refine ⟨g, p + 1, rfl, HROW3.out.lt, fun i v hi => ?_⟩
                            rw [List.getElem?_drop] at hi
                            exact HROW3.out.cell hi
                          have HDR := Lib.hid hdr
                          clear hdr
                          go_wp2_with (at_builtin; go_loud (refine wpList_app rfl _ _ 32 rfl wr.heap.size 40 i0 (.slice none 0 0) 24 Try.underlying32 HI.out HZ0.out HZ1.out HZ2.out rfl (.slice A1 p c1) p ((L.map CV.v).take p) rfl HO1.out.own (some ⟨g, p + 1, none⟩) (Ln - (p + 1)) (Lc - (p + 1)) ((L.map CV.v).drop (p + 1)) rfl (by rw [List.length_drop, List.length_map, HLL.out]) HDR.out (fun h => by cases h) (fun u hu => by obtain ⟨x, _, rfl⟩ := List.mem_map.1 (List.mem_of_mem_drop hu); rfl) (by unfold maxLen; omega) (by omega) HBX.out.size ?_; intro v' w4 hown hgrow; obtain ⟨A2, c2, rfl, hO⟩ := HOW2.out v' w4 _ _ hown (by omega) rfl; have HO2 := Lib.hid hO; have HBY := Lib.hid (show Below wr.heap.size wr w4 from HBX.out.trans ((Mod.grown hgrow).below (fun i _ e => HO1.out.block e) HBX.out.size)); clear hown hgrow hO))
                          go_meet
                          case rel => exact ⟨A2, c2, rfl, HO2.out, HBY.out⟩
                      case rest =>
                        obtain ⟨W3, hW3⟩ : ∃ W3, W3 = wc := ⟨_, rfl⟩
                        subst hW3
                        obtain ⟨A2, c2, rfl, hO, hb⟩ := hcut
                        have HO := Lib.hid hO
                        have HBC := Lib.hid hb
                        have HBWC := Lib.hid (below_then HBW3.out (show Below w3.heap.size w3 w3 from Below.refl _ _) HBW3.out.size)
                        have HBWc := Lib.hid (below_then HBW.out hb HBW.out.size)
                        have HLc := Lib.hid (HR.out.left.below hb)
                        have HSc := Lib.hid (ownsRow_below HR.out.stk hb)
                        have HB1c := Lib.hid (below_then HR.out.bl hb HR.out.bl.size)
                        have HW1 := Lib.hid HB1.out.size
                        clear hO hb HO1 HBX HROW3 HBW3 HOW1 HOW2 HBWC e1 HRL
                        have HBSc := Lib.hid (Nat.le_trans HS.out HBWc.out.size)
                        have hkl : k < ls.length := by rw [← HLS.out.ln]; exact h2
                        obtain ⟨bl, ol, hal, _, hcl⟩ := RdV.at_ ((HLS.out.below (HBWc.out.mono HS.out)).rd.rd HBSc.out) (enc_at (enc := CV.v) hkl)
                        have HMl := Lib.hid (show ls[k]'hkl ∈ ls from List.getElem_mem hkl)
                        have hpL : p < L.length := by rw [HLL.out]; exact hp
                        have hcL : W3.cell? ⟨g, p, none⟩ = some (L[p]'hpL).v := by
                          obtain ⟨g', e, _, hrow'⟩ := HLc.out.row h3
                          cases e
                          exact hrow'.cell (enc_at (enc := CV.v) hpL)
                        have HGS := Lib.hid fun (hg : ∀ j, j < 2 ^ V → condG (L.take p ++ L.drop (p + 1)) ⟨ls[k]'hkl, L[p]'hpL⟩ (modelB V j)) => HR.out.gi.step HRF.out p hpL (ls[k]'hkl) (by have := HRL.out; unfold rightsB at this; rw [List.all_eq_true] at this; exact this _ HMl.out) hg
                        have HRTL := Lib.hid (show rightB V (ls[k]'hkl).l = true by have := HRL.out; unfold rightsB at this; rw [List.all_eq_true] at this; exact this _ HMl.out)
                        have HMF := Lib.hid (HR.out.gi.sub _ (List.getElem_mem hpL))
                        generalize ls[k]'hkl = x at *
                        generalize L[p]'hpL = y at *
                        obtain ⟨Ax, nx, cx, lx⟩ := x
                        obtain ⟨Ay, ny, cy, ly⟩ := y
                        dsimp only [CV.v] at hcl hcL
                        subst hal
                        have hcL' : W3.cell? ⟨g, p, none⟩ = some (.slice Ay ny cy) := hcL
                        have HCX := Lib.hid (((HLS.out.below (HBWc.out.mono HS.out)).all _ HMl.out).up HBSc.out)
                        have HCY := Lib.hid (((HF.out.below (HBWc.out.mono HS.out)).all _ HMF.out).up HBSc.out)
                        clear hkl hpL hcL
                        go_upto_region 13 with (fail)
                        go_cut [12] from 50 to 111 (fun r wx => r = .pointer (some ⟨W3.heap.size, 0, none⟩) ∧ wx = (W3.alloc (.cells #[.slice Ax nx cx, .slice Ay ny cy] 42)).drew)
                        case first =>
                          have z1 : (W3.alloc (.cells #[.slice none 0 0, .slice none 0 0] 42)).cell? ⟨g, p, none⟩ = some (.slice Ay ny cy) := (((Below.refl W3.heap.size W3).alloc (Nat.le_refl _) _).cell (p := ⟨g, p, none⟩) (World.block_lt_of_cell? W3 _ hcL')).trans hcL'
                          have z2 : (W3.alloc (.cells #[.slice none 0 0, .slice none 0 0] 42)).cell? ⟨bl, ol + k, none⟩ = some (.slice Ax nx cx) := (((Below.refl W3.heap.size W3).alloc (Nat.le_refl _) _).cell (p := ⟨bl, ol + k, none⟩) (World.block_lt_of_cell? W3 _ hcl)).trans hcl
                          go_region
                          all_goals (go_wp2_with fail; go_meet; exact ⟨rfl, rfl⟩)
                        case rest =>
                          obtain ⟨rfl, hwc⟩ := hcut
                          have HBD := Lib.hid (show Below W3.heap.size W3 wc from hwc ▸ ((Below.refl _ W3).alloc (Nat.le_refl _) _).drew)
                          have HKB := Lib.hid (show Blk wc W3.heap.size 42 #[.slice Ax nx cx, .slice Ay ny cy] from hwc ▸ (Blk.new W3 _ _).drew)
                          have hcl5 : wc.cell? ⟨bl, ol + k, none⟩ = some (.slice Ax nx cx) := (HBD.out.cell (p := ⟨bl, ol + k, none⟩) (World.block_lt_of_cell? W3 _ hcl)).trans hcl
                          clear hwc hcL' hcl
                          obtain ⟨W5, hW5⟩ : ∃ W5, W5 = wc := ⟨_, rfl⟩
                          subst hW5
                          have HO5 := Lib.hid (HO.out.below HBD.out)
                          have HL5 := Lib.hid (HLc.out.below HBD.out)
                          have HS5 := Lib.hid (ownsRow_below HSc.out HBD.out)
                          have HB5 := Lib.hid (below_then HBWc.out HBD.out HBWc.out.size)
                          have HB15 := Lib.hid (below_then HB1c.out HBD.out HB1c.out.size)
                          have HBS5 := Lib.hid (Nat.le_trans HBSc.out HBD.out.size)
                          have HCX5 := Lib.hid ((HCX.out.below HBD.out).up HBD.out.size)
                          have HCY5 := Lib.hid ((HCY.out.below HBD.out).up HBD.out.size)
                          have hnx : nx ≤ 9223372036854775807 := HCX.out.mx
                          have qv : W5.cell? ⟨w.heap.size, 0, none⟩ = some (.int .i64 V) := (K1.out.below HB15.out).cell 0
                          have k0 : W5.cell? ⟨W3.heap.size, 0, none⟩ = some (.slice Ax nx cx) := HKB.out.cell 0
                          have k1 : W5.cell? ⟨W3.heap.size, 1, none⟩ = some (.slice Ay ny cy) := HKB.out.cell 1
                          have HMEM := Lib.hid (show ∀ z, z ∈ L.take p ++ L.drop (p + 1) → z ∈ F from fun z hz => HR.out.gi.sub _ (by
                            rcases List.mem_append.1 hz with h | h
                            · exact List.mem_of_mem_take h
                            · exact List.mem_of_mem_drop h))
                          have HNOT := Lib.hid fun (W6 : World) (hb : Below W5.heap.size W5 W6) => (show LR w1.heap.size V F ls w1 W6 (k + 1) (some ⟨g, 0, none⟩) Ln Lc SA Sn Sc L St from
                            ⟨HL5.out.below hb, ownsRow_below HS5.out hb, HR.out.gi, HR.out.mem, HR.out.l12, Nat.le_succ_of_le HR.out.sk, below_then HB15.out hb HB15.out.size⟩)
                          have HGK := Lib.hid (show gk + k = pn from hk)
                          have HGD := Lib.hid (good_any (Nat.le_refl _) V hV6 A2 (Ln - 1) c2 (L.take p ++ L.drop (p + 1)) (clsOwn HO5.out (by omega) (fun z hz => ((HF.out.below (HB5.out.mono HS.out)).all _ (HMEM.out z hz)).up HBS5.out)) ⟨⟨Ax, nx, cx, lx⟩, ⟨Ay, ny, cy, ly⟩⟩ HCX5.out HCY5.out HRTL.out)
                          dsimp only [CV.v] at HGD
                          clear hk
                          by_cases h10 : nx ≤ 10
                          · go_wp2_with fail
                            refine HGD.out.mono ?_
                            rintro e W6 ⟨⟨b, rfl, hgood⟩, hb6⟩
                            cases b with
                            | false =>
                              have HN := Lib.hid (HNOT.out W6 hb6)
                              clear hgood hb6 qv k0 k1 hcl5
                              go_wp2
                              go_roundg (gk - 1)
                              case measure => have := HGK.out; omega
                              case rel => exact ⟨k + 1, _, _, _, _, _, _, _, _, by have := HGK.out; omega, by go_num, rfl, rfl, HN.out⟩
                            | true =>
                              have HGI := Lib.hid (HGS.out (hgood rfl))
                              have k60 : W6.cell? ⟨W3.heap.size, 0, none⟩ = some (.slice Ax nx cx) := (HKB.out.below hb6).cell 0
                              have k61 : W6.cell? ⟨W3.heap.size, 1, none⟩ = some (.slice Ay ny cy) := (HKB.out.below hb6).cell 1
                              have HO6 := Lib.hid (HO5.out.below hb6)
                              have HS6 := Lib.hid (ownsRow_below HS5.out hb6)
                              have HB16 := Lib.hid (below_then HB15.out hb6 HB15.out.size)
                              clear hgood hb6 qv k0 k1 hcl5
                              have HS7 := Lib.hid (ownsRow_below HS6.out (show Below W6.heap.size W6 (W6.alloc (.cells #[.slice Ax nx cx, .slice Ay ny cy] 42)) from (Below.refl _ _).alloc (Nat.le_refl _) _))
                              have HO7 := Lib.hid (HO6.out.alloc (.cells #[.slice Ax nx cx, .slice Ay ny cy] 42))
                              have HB17 := Lib.hid (HB16.out.alloc HB16.out.size (.cells #[.slice Ax nx cx, .slice Ay ny cy] 42))
                              have HAP := Lib.hid (own_apart HO7.out HS7.out (by decide))
                              have HNEW := Lib.hid fun (j : Nat) (u : Value) (hj : [Value.slice Ax nx cx, Value.slice Ay ny cy][j]? = some u) => (show (W6.alloc (.cells #[.slice Ax nx cx, .slice Ay ny cy] 42)).cell? ((⟨W6.heap.size, 0, none⟩ : Addr).add j) = some u by
                                rw [Go.WideShapes.add_plain, Nat.zero_add, (Blk.new W6 42 #[.slice Ax nx cx, .slice Ay ny cy]).cell j]
                                simpa using hj)
                              have hsk := HR.out.sk
                              have HFIN := Lib.hid fun (v' : Value) (w8 : World) (hown : w8.ownsRow w1.heap.size 42 2 v' (Sn + 1) (flatW St ++ [.slice Ax nx cx, .slice Ay ny cy])) (hgrow : (W6.alloc (.cells #[.slice Ax nx cx, .slice Ay ny cy] 42)).grownBy w8 (Value.slice SA Sn Sc).ownBlock) =>
                                (show ∃ A c, v' = .slice A (Sn + 1) c ∧ LR w1.heap.size V F ls w1 w8 (k + 1) A2 (Ln - 1) c2 A (Sn + 1) c (L.take p ++ L.drop (p + 1)) (St ++ [⟨⟨Ax, nx, cx, lx⟩, ⟨Ay, ny, cy, ly⟩⟩]) by
                                  obtain ⟨A, c, rfl⟩ := own_slice hown
                                  refine ⟨A, c, rfl, (HO7.out.mod (Mod.grown hgrow) (fun i _ hi => HAP.out i hi)).low HR.out.bl.size, ?_, HGI.out, ?_, by have := HR.out.l12; omega, by have := HR.out.sk; omega, HB17.out.trans ((Mod.grown hgrow).below (fun i _ e => own_block HS7.out e) HB17.out.size)⟩
                                  · rw [flatW_snoc]; exact hown
                                  · intro z hz
                                    rcases List.mem_append.1 hz with hz | hz
                                    · exact HR.out.mem z hz
                                    · obtain rfl := List.mem_singleton.1 hz
                                      exact ⟨HMl.out, HMF.out⟩)
                              go_wp2_with (at_builtin; go_loud (refine wpList_append_own _ rfl _ _ 24 rfl w1.heap.size 42 iW (.agg #[.slice none 0 0, .slice none 0 0]) 2 48 Try.underlying24 HIW.out HZW0.out HZW1.out HZW2.out rfl (by decide) (.slice SA Sn Sc) Sn (flatW St) rfl HS7.out ⟨W6.heap.size, 0, none⟩ 1 1 [.slice Ax nx cx, .slice Ay ny cy] rfl rfl HNEW.out (fun u hu => by rcases List.mem_cons.1 hu with rfl | hu; rfl; obtain rfl := List.mem_singleton.1 hu; rfl) (by unfold maxLen; omega) (by omega) HB17.out.size ?_; intro v' w8 hown hgrow hnl; obtain ⟨A9, c9, rfl, hL9⟩ := HFIN.out v' w8 hown hgrow; have HL9 := Lib.hid hL9; clear hown hgrow hnl hL9))
                              go_roundg (gk - 1)
                              case measure => have := HGK.out; omega
                              case rel => exact ⟨k + 1, _, _, _, _, _, _, _, _, by have := HGK.out; omega, by go_num, rfl, rfl, HL9.out⟩
                          · have HN := Lib.hid (HNOT.out W5 (Below.refl _ _))
                            go_wp2
                            go_roundg (gk - 1)
                            case measure => have := HGK.out; omega
                            case rel => exact ⟨k + 1, _, _, _, _, _, _, _, _, by have := HGK.out; omega, by go_num, rfl, rfl, HN.out⟩
                    · have HN := Lib.hid hk
                      go_wp2
                      go_meet
                      case rel => exact ⟨k, _, _, _, _, _, _, _, _, by have := HN.out; omega, rfl, rfl, HR.out⟩
                  · have HN := Lib.hid hk
                    go_wp2
                    go_meet
                    case rel => exact ⟨k, _, _, _, _, _, _, _, _, by have := HN.out; omega, rfl, rfl, HR.out⟩
                · have HN := Lib.hid hk
                  go_wp2
                  go_meet
                  case rel => exact ⟨k, _, _, _, _, _, _, _, _, by have := HN.out; omega, rfl, rfl, HR.out⟩
            case rest =>
              obtain ⟨W2, hW2⟩ : ∃ W2, W2 = wc := ⟨_, rfl⟩
              subst hW2
              obtain ⟨k0, LA, Ln, Lc, SA, Sn, Sc, L, St, hk0, rfl, rfl, hR⟩ := hcut
              have HR := Lib.hid hR
              have hl12 := hR.l12
              have hsn := hR.sk
              clear hR
              have HBW := Lib.hid (below_then HB1.out HR.out.bl HB1.out.size)
              have HBS := Lib.hid (Nat.le_trans HS.out HBW.out.size)
              have HFC := Lib.hid fun (z : CV) (hz : z ∈ F) => (((HF.out.below (HBW.out.mono HS.out)).all z hz).up HBS.out)
              have HLC := Lib.hid fun (z : CV) (hz : z ∈ ls) => (((HLS.out.below (HBW.out.mono HS.out)).all z hz).up HBS.out)
              have HCL := Lib.hid (clsOwn HR.out.left (by omega) (fun z hz => HFC.out z (HR.out.gi.sub z hz)))
              have HWT := Lib.hid (wt_own HR.out.stk (by omega) (fun x hx => ⟨HLC.out _ (HR.out.mem x hx).1, HFC.out _ (HR.out.mem x hx).2⟩))
              have HFF := Lib.hid ((HF.out.below (HBW.out.mono HS.out)).up HBS.out)
              have HK2 := Lib.hid (K1.out.below HR.out.bl)
              have hp : 2 ^ V ≤ 64 := Nat.le_trans (Nat.pow_le_pow_right (by decide) hV6) (by decide)
              obtain ⟨N, hN⟩ : ∃ N, N = 2 ^ V := ⟨_, rfl⟩
              have HN := Lib.hid hN
              rw [← hN] at hp
              clear hN
              have hsh : wrap64 ((2 : Int) ^ V) = (N : Int) := by
                rw [show ((2 : Int) ^ V) = (N : Int) by rw [HN.out]; simp]
                unfold wrap64; omega
              go_wp2_with fail
              go_loopw [13] (fun i wx => ∃ k : Nat, k ≤ N ∧ i = .int .i64 k ∧ Below W2.heap.size W2 wx) (fun i _ => N - (intOf i).toNat)
              case atStart => exact ⟨0, Nat.zero_le _, rfl, Below.refl _ _⟩
              case round =>
                obtain ⟨k, hk, rfl, hb⟩ := hrel
                have HB := Lib.hid hb
                have qv : wr.cell? ⟨w.heap.size, 0, none⟩ = some (.int .i64 V) := (HK2.out.below hb).cell 0
                clear hb
                by_cases hlt : k < N
                · have HMO := Lib.hid (model_any V k (by omega) (by rw [← HN.out]; exact hlt) wr)
                  go_wp2_with fail
                  refine HMO.out.mono ?_
                  rintro e w3 ⟨A3, c3, rfl, hO, hb3⟩
                  have HML := Lib.hid (modelB_length V k)
                  generalize modelB V k = m at *
                  have HO := Lib.hid hO
                  have HB3 := Lib.hid (below_then HB.out hb3 HB.out.size)
                  clear hO hb3 HMO qv
                  have HWT3 := Lib.hid ((HWT.out.below HB3.out).ln)
                  have HEX := Lib.hid (extend_any (Nat.le_refl _) A3 V c3 m (OwnM.md HO.out (by omega)) (Own_nil HO.out) (by omega) SA Sn Sc St (show WtOk w3.heap.size w3 SA Sn St from by
                    have h := HWT.out.below HB3.out
                    exact ⟨h.ln, h.mx, fun hp => by
                      obtain ⟨b, off, e, hx, hc⟩ := h.rd hp
                      exact ⟨b, off, e, Nat.lt_of_lt_of_le hx HB3.out.size, hc⟩, fun x hx => ⟨(h.all x hx).1.up HB3.out.size, (h.all x hx).2.up HB3.out.size⟩⟩))
                  go_wp2_with fail
                  refine HEX.out.mono ?_
                  rintro e w4 ⟨hb4, ⟨h, _⟩ | ⟨_, A4, c4, rfl, hO4⟩⟩
                  · rw [HR.out.gi.ok] at h; cases h
                  have HO4 := Lib.hid hO4
                  have HO3 := Lib.hid (HO.out.below hb4)
                  have HB4 := Lib.hid (below_then HB3.out hb4 HB3.out.size)
                  have HA := Lib.hid (HR.out.gi.a m HML.out)
                  have HBF := Lib.hid (HR.out.gi.b m HML.out)
                  clear hO4 hb4 HEX HWT3
                  generalize extendB m St = x at *
                  have HC := Lib.hid (Holds_any (c := c3) (cc := Lc) (vars := 0) (Nat.le_refl _) (OwnM.md HO3.out (by omega)) ((HCL.out.below HB4.out).up HB4.out.size))
                  go_wp2_with fail
                  refine HC.out.mono ?_
                  rintro e w5 ⟨rfl, hb5⟩
                  have HO35 := Lib.hid (HO3.out.below hb5)
                  have HO45 := Lib.hid (HO4.out.below hb5)
                  have HB5 := Lib.hid (below_then HB4.out hb5 HB4.out.size)
                  clear hb5 HC
                  cases hL : holdsB m L with
                  | false =>
                    clear hL
                    have qg0 : w5.cell? ⟨w.heap.size, 0, none⟩ = some (.int .i64 V) := (HK2.out.below HB5.out).cell 0
                    have qg1 : w5.cell? ⟨w.heap.size, 1, none⟩ = some (.slice fa fn fc) := (HK2.out.below HB5.out).cell 1
                    have HC := Lib.hid (Holds_any (c := c3) (cc := fc) (vars := V) (Nat.le_refl _) (OwnM.md HO35.out (by omega)) ((HFF.out.below HB5.out).up HB5.out.size))
                    go_wp2_with fail
                    refine HC.out.mono ?_
                    rintro e w8 ⟨rfl, hb8⟩
                    have HO38 := Lib.hid (HO35.out.below hb8)
                    have HO48 := Lib.hid (HO45.out.below hb8)
                    have HB8 := Lib.hid (below_then HB5.out hb8 HB5.out.size)
                    clear hb8 HC qg0 qg1
                    cases hF : holdsB m F with
                    | false =>
                      clear hF
                      go_wp2
                      go_roundw
                      case rel => exact ⟨k + 1, by omega, by go_num, HB8.out⟩
                      case measure => simp [intOf]; omega
                    | true =>
                      have HE := Lib.hid (HBF.out hF)
                      clear hF
                      have HC := Lib.hid (sameModel_any (Nat.le_refl _) A4 V c4 x (OwnM.md HO48.out (by omega)) A3 V c3 m (OwnM.md HO38.out (by omega)))
                      go_wp2_with fail
                      refine HC.out.mono ?_
                      rintro e w9 ⟨rfl, hb9⟩
                      have HB9 := Lib.hid (below_then HB8.out hb9 HB8.out.size)
                      clear hb9 HC
                      rw [show (x == m) = true by rw [HE.out]; simp]
                      go_wp2
                      go_roundw
                      case rel => exact ⟨k + 1, by omega, by go_num, HB9.out⟩
                      case measure => simp [intOf]; omega
                  | true =>
                    have HAT := Lib.hid (HA.out hL)
                    clear hL
                    have qh0 : w5.cell? ⟨w.heap.size, 0, none⟩ = some (.int .i64 V) := (HK2.out.below HB5.out).cell 0
                    have qh1 : w5.cell? ⟨w.heap.size, 1, none⟩ = some (.slice fa fn fc) := (HK2.out.below HB5.out).cell 1
                    have HC := Lib.hid (Holds_any (c := c4) (cc := fc) (vars := V) (Nat.le_refl _) (OwnM.md HO45.out (by omega)) ((HFF.out.below HB5.out).up HB5.out.size))
                    go_wp2_with fail
                    refine HC.out.mono ?_
                    rintro e w6 ⟨rfl, hb6⟩
                    have HO36 := Lib.hid (HO35.out.below hb6)
                    have HO46 := Lib.hid (HO45.out.below hb6)
                    have HB6 := Lib.hid (below_then HB5.out hb6 HB5.out.size)
                    clear hb6 HC qh0 qh1
                    rw [HAT.out]
                    have qg0 : w6.cell? ⟨w.heap.size, 0, none⟩ = some (.int .i64 V) := (HK2.out.below HB6.out).cell 0
                    have qg1 : w6.cell? ⟨w.heap.size, 1, none⟩ = some (.slice fa fn fc) := (HK2.out.below HB6.out).cell 1
                    have HC := Lib.hid (Holds_any (c := c3) (cc := fc) (vars := V) (Nat.le_refl _) (OwnM.md HO36.out (by omega)) ((HFF.out.below HB6.out).up HB6.out.size))
                    go_wp2_with fail
                    refine HC.out.mono ?_
                    rintro e w8 ⟨rfl, hb8⟩
                    have HO38 := Lib.hid (HO36.out.below hb8)
                    have HO48 := Lib.hid (HO46.out.below hb8)
                    have HB8 := Lib.hid (below_then HB6.out hb8 HB6.out.size)
                    clear hb8 HC qg0 qg1
                    cases hF : holdsB m F with
                    | false =>
                      clear hF
                      go_wp2
                      go_roundw
                      case rel => exact ⟨k + 1, by omega, by go_num, HB8.out⟩
                      case measure => simp [intOf]; omega
                    | true =>
                      have HE := Lib.hid (HBF.out hF)
                      clear hF
                      have HC := Lib.hid (sameModel_any (Nat.le_refl _) A4 V c4 x (OwnM.md HO48.out (by omega)) A3 V c3 m (OwnM.md HO38.out (by omega)))
                      go_wp2_with fail
                      refine HC.out.mono ?_
                      rintro e w9 ⟨rfl, hb9⟩
                      have HB9 := Lib.hid (below_then HB8.out hb9 HB8.out.size)
                      clear hb9 HC
                      rw [show (x == m) = true by rw [HE.out]; simp]
                      go_wp2
                      go_roundw
                      case rel => exact ⟨k + 1, by omega, by go_num, HB9.out⟩
                      case measure => simp [intOf]; omega
                · have HWK := Lib.hid (works_any wr)
                  have HBE := Lib.hid (below_then HBW.out HB.out HBW.out.size)
                  go_wp2_with fail
                  refine HWK.out.mono ?_
                  rintro e w3 ⟨rfl, hb3⟩
                  have HB3 := Lib.hid (below_then HBE.out hb3 HBE.out.size)
                  clear hb3
                  go_wp2
                  go_ret
                  exact ⟨rfl, HB3.out⟩
end Go.Proofs.Ytfpohiflpemkjaa.Ex
