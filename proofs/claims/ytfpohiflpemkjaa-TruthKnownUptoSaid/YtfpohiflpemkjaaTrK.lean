/- truth.take: the walk. -/
import Derived.Test.YtfpohiflpemkjaaTrT
namespace Go.Proofs.Ytfpohiflpemkjaa.Tr
open Go.RowKit Go.Proofs.Ytfpohiflpemkjaa.Mem Go.Proofs.Ytfpohiflpemkjaa.Sl Go.Proofs.Ytfpohiflpemkjaa.Cl Go.Proofs.Ytfpohiflpemkjaa.Mo Go.Shelf
open Go.Proofs.Ytfpohiflpemkjaa.FnL (Pred enc_at below_then)
set_option linter.unusedVariables false

theorem results_cell_tmp {P : Program} {fn : Func} {p q : Tmp} {ty : TypeId} (h : fn.results = #[.cell p ty, .tmp q]) (tmps : Array Value) (w : World) (g : Nat) (t : TypeId) (cs : Array Value) (fr : Nat × Nat) (d : TypeDesc)
    (hp : tmps.getD p undef = .pointer (some ⟨g, 0, none⟩)) (hg : w.heap[g]? = some (.cells cs t fr))
    (hu : P.underlying ty = some d) (hd : (match d with | .struct _ | .array _ _ => true | _ => false) = true) (hi : (P.info? ty).map (·.size) = some cs.size) :
    (results fn tmps).run P w = .ok (.tuple #[.agg cs, tmps.getD q undef]) w := by
  have hp' : tmps[p]?.getD undef = .pointer (some ⟨g, 0, none⟩) := by simpa using hp
  simp [results, h, hp', asAddr, run_loadVar_row w g t ty cs fr d hg hu hd hi]
set_option maxRecDepth 100000 in
set_option maxHeartbeats 4000000 in
theorem take_any {B : Nat} {w : World} (hB : B ≤ w.heap.size) (N : Int) (ca : Option Addr) (cn cc : Nat) (cs : List CV) (hcs : ClsOk B w ca cn cs) :
    Calls Try.prog 44 #[.agg #[.int .i64 N, .slice ca cn cc]] w fun e w' => TakeR N cs e w' ∧ Below w.heap.size w w' := by
  have HS := Lib.hid hB
  have HCS := Lib.hid hcs
  have HL := Lib.hid hcs.ln
  have HT := Lib.hid (show takenE N cs = if rightE N cs = 0 ∧ 16 < N then 3 else rightE N cs from rfl)
  clear hB hcs
  go_enter Try.func44, Try.ntmps44
  go_upto_region 1 with (fail)
  obtain ⟨W0, hW0⟩ : ∃ W0, W0 = (w.alloc (.cells #[.int .i64 N, .slice ca cn cc] 34)).alloc (.cells #[.int .i64 0, .slice none 0 0] 73) := ⟨_, rfl⟩
  rw [← hW0]
  have HB0 := Lib.hid (show Below w.heap.size w W0 from hW0 ▸ (((Below.refl _ w).alloc (Nat.le_refl _) _).alloc (by simp) _))
  have K0 := Lib.hid (show Blk W0 w.heap.size 34 #[.int .i64 N, .slice ca cn cc] from hW0 ▸ (Blk.new w _ _).alloc _)
  have K1 := Lib.hid (show Blk W0 (w.heap.size + 1) 73 #[.int .i64 0, .slice none 0 0] by rw [hW0]; exact Cl.blk_here (by simp))
  have HW0 := Lib.hid (show W0.heap.size = w.heap.size + 2 by rw [hW0]; simp)
  clear hW0
  have q1 : W0.cell? ⟨w.heap.size, 0, none⟩ = some (.int .i64 N) := K0.out.cell 0
  have q2 : W0.cell? ⟨w.heap.size, 1, none⟩ = some (.slice ca cn cc) := K0.out.cell 1
  have HC := Lib.hid (Right_any (Nat.le_trans HS.out HB0.out.size) N ca cn cc cs (HCS.out.below (HB0.out.mono HS.out)))
  go_wp2_with fail
  refine HC.out.mono ?_
  rintro e w1 ⟨rfl, hb1⟩
  have HB1 := Lib.hid (below_then HB0.out hb1 HB0.out.size)
  have HZ1 := Lib.hid hb1.size
  have K01 := Lib.hid (K0.out.below hb1)
  have K11 := Lib.hid (K1.out.below hb1)
  have q3 : w1.cell? ⟨w.heap.size, 0, none⟩ = some (.int .i64 N) := K01.out.cell 0
  have q4 : w1.cell? ⟨w.heap.size, 1, none⟩ = some (.slice ca cn cc) := K01.out.cell 1
  have r0 : w1.cell? ⟨w.heap.size + 1, 0, none⟩ = some (.int .i64 0) := K11.out.cell 0
  have r1 : w1.cell? ⟨w.heap.size + 1, 1, none⟩ = some (.slice none 0 0) := K11.out.cell 1
  have s0 : w1.frozen? ⟨w.heap.size + 1, 0, none⟩ = false := K11.out.frozen 0
  have s1 : w1.frozen? ⟨w.heap.size + 1, 1, none⟩ = false := K11.out.frozen 1
  clear hb1 q1 q2 HC
  by_cases h0 : rightE N cs = 0
  · have HT0 := Lib.hid h0
    have HT2 := Lib.hid (show takenE N cs = if 16 < N then 3 else 0 by rw [HT.out, h0]; simp)
    rw [h0]
    clear h0
    by_cases h16 : 16 < N
    · have HE := Lib.hid (HT2.out.trans (if_pos h16))
      go_wp2
      have E1 := Blk.set_ (Blk.set_ K11.out 0 (.int .i64 0)) 1 (.slice none 0 0)
      refine bodyPost_ret (results_cell_tmp (ty := 73) rfl _ _ (w.heap.size + 1) 73 #[.int .i64 0, .slice none 0 0] (0, 0) _ rfl E1 Try.underlying73 rfl (by kernel_rfl)) rfl ?_
      exact ⟨.inl ⟨by rw [HE.out]; decide, by rw [HE.out]; rfl⟩, (HB1.out.setCell (p := ⟨w.heap.size + 1, 0, none⟩) (Nat.le_succ _) _).setCell (p := ⟨w.heap.size + 1, 1, none⟩) (Nat.le_succ _) _⟩
    · have HE := Lib.hid (HT2.out.trans (if_neg h16))
      have HTK := Lib.hid (taken_ok HE.out)
      obtain ⟨V, hV⟩ : ∃ V : Nat, N = V := ⟨N.toNat, by have := HTK.out.2.1; omega⟩
      subst hV
      have hcn : cn ≤ 1048576 := by rw [HL.out]; exact HTK.out.2.2.2.1
      obtain ⟨iM, hi⟩ := Option.isSome_iff_exists.1 (show (Try.prog.info? 81).isSome = true by kernel_rfl)
      have hz : (Try.prog.info? 81).map (fun i => (i.zero, i.size, i.bytes)) = some (some (.agg #[.int .u32 0, .int .u32 0]), 2, 8) := by kernel_rfl
      rw [hi] at hz
      injection hz with hz
      injection hz with hz0 hz
      injection hz with hz1 hz2
      have HIM := Lib.hid hi
      have HZ0 := Lib.hid hz0
      have HZ1' := Lib.hid hz1
      have HZ2 := Lib.hid hz2
      clear hi hz0 hz1 hz2
      go_upto_region 7 with (fail)
      obtain ⟨W2, hW2⟩ : ∃ W2, W2 = w1.alloc (.cells #[.int .i64 V, .slice none 0 0] 73) := ⟨_, rfl⟩
      rw [← hW2]
      have HBX := Lib.hid (show Below w1.heap.size w1 W2 from hW2 ▸ ((Below.refl _ w1).alloc (Nat.le_refl _) _))
      have KT := Lib.hid (show Blk W2 w1.heap.size 73 #[.int .i64 V, .slice none 0 0] from hW2 ▸ Blk.new w1 _ _)
      have HWS := Lib.hid (show W2.heap.size = w1.heap.size + 1 by rw [hW2]; simp)
      clear hW2 q3 q4 r0 r1 s0 s1
      have q4 : W2.cell? ⟨w.heap.size, 1, none⟩ = some (.slice ca cn cc) := (K01.out.below HBX.out).cell 1
      obtain ⟨tb, htb⟩ : ∃ tb, tb = w1.heap.size := ⟨_, rfl⟩
      rw [← htb] at KT ⊢
      have HTB := Lib.hid htb
      clear htb
      go_wp2_with fail
      clear q4
      go_loopg [24] cn (fun M i wr => ∃ (k : Nat) (A : Option Addr) (c : Nat), M + k = cn ∧ i = .int .i64 k ∧ Blk wr tb 73 #[.int .i64 V, .slice A k c] ∧ wr.ownsRow W2.heap.size 81 2 (.slice A k c) k (flatM ((cs.take k).map fun x => maskOf x.l)) ∧ Below w1.heap.size w1 wr ∧ W2.heap.size ≤ wr.heap.size)
      case atStart => exact ⟨0, none, 0, rfl, rfl, KT.out, World.ownsRow_nil _ _ _ _, HBX.out, Nat.le_refl _⟩
      case round =>
        obtain ⟨k, A, c, hM, rfl, hkt, hown, hb, hsz⟩ := hrel
        have HMK := Lib.hid hM
        have HKT := Lib.hid hkt
        have HOW := Lib.hid hown
        have HB := Lib.hid (below_then HB1.out hb HB1.out.size)
        have HBW := Lib.hid hb
        have HSZ := Lib.hid hsz
        clear hkt hown hb hsz hM
        by_cases hlt : k < cn
        · have hkl : k < cs.length := by rw [← HL.out]; exact hlt
          have HBS := Lib.hid (Nat.le_trans HS.out HB.out.size)
          obtain ⟨b, off, ha, _, hc⟩ := RdV.at_ ((HCS.out.below (HB.out.mono HS.out)).rd.rd HBS.out) (enc_at (enc := CV.v) hkl)
          subst ha
          have HCL := Lib.hid (((HCS.out.below (HB.out.mono HS.out)).all _ (List.getElem_mem hkl)).up HBS.out)
          have HOKL := Lib.hid (show okL (cs[k]'hkl).l from fun y hy => by have := HTK.out.2.2.2.2 _ (List.getElem_mem hkl) y hy; have h16 := HTK.out.2.2.1; omega)
          have HTA := Lib.hid (show flatM ((cs.take (k + 1)).map fun x => maskOf x.l) = flatM ((cs.take k).map fun x => maskOf x.l) ++ [.int .u32 (maskOf (cs[k]'hkl).l).1, .int .u32 (maskOf (cs[k]'hkl).l).2] by rw [List.take_succ_eq_append_getElem hkl, List.map_append]; exact flatM_snoc _ _)
          have HC := Lib.hid (clause_any (w := wr.drew) (show wr.heap.size ≤ wr.drew.heap.size from Nat.le_refl _) (cs[k]'hkl) (HCL.out.below ((Below.refl _ wr).drew)) HOKL.out)
          generalize flatM ((cs.take k).map fun x => maskOf x.l) = fm at *
          generalize cs[k]'hkl = y at *
          generalize maskOf y.l = m at *
          obtain ⟨mp, mq⟩ := m
          obtain ⟨Ay, ny, cy, ly⟩ := y
          dsimp only [CV.v] at hc HC
          dsimp only [mkV] at HC
          clear hkl HCL
          have HBB := Lib.hid (show ∀ w6, Below wr.drew.heap.size wr.drew w6 → Below wr.heap.size wr w6 from fun w6 h => ⟨h.os, h.tape, h.output, h.size, h.block⟩)
          have HKK := Lib.hid fun (w6 : World) (h : Below wr.drew.heap.size wr.drew w6) => HKT.out.below (HBB.out w6 h)
          have HOO := Lib.hid fun (w6 : World) (h : Below wr.drew.heap.size wr.drew w6) => (show w6.ownsRow W2.heap.size 81 2 (.slice A k c) k fm from by
            obtain ⟨h1, h2 | ⟨g, cap, cur, e, h3, h4, h5⟩⟩ := HOW.out
            · exact ⟨h1, .inl h2⟩
            · exact ⟨h1, .inr ⟨g, cap, cur, e, h3, ((HBB.out w6 h).block g (Array.getElem?_eq_some_iff.1 h4).1).trans h4, h5⟩⟩)
          have hdt : wr.drew.cell? ⟨tb, 1, none⟩ = some (.slice A k c) := HKT.out.cell 1
          have HLTB := Lib.hid (show tb < W2.heap.size by have := HTB.out; have := HWS.out; omega)
          have HNEB := Lib.hid (show ∀ g, (Value.slice A k c).ownBlock = some g → tb ≠ g from fun g hg => by
            obtain ⟨h1, ⟨e, _⟩ | ⟨g', cap, cur, e, h3, h4, h5⟩⟩ := HOW.out
            · rw [e] at hg; cases hg
            · rw [e] at hg
              simp only [Value.ownBlock, Option.some.injEq] at hg
              subst hg
              show tb ≠ g'
              have := HLTB.out
              omega)
          have HWR := Lib.hid (show tb < wr.heap.size by have := HLTB.out; have := HSZ.out; omega)
          have HPRE := Lib.hid fun (w6 : World) (hb6 : Below wr.drew.heap.size wr.drew w6) => (show w6.cell? ⟨tb, 1, none⟩ = some (.slice A k c) ∧ (w6.alloc (.cells #[.int .u32 mp, .int .u32 mq] 81)).cell? ⟨tb, 1, none⟩ = some (.slice A k c) ∧
              Hid ((w6.alloc (.cells #[.int .u32 mp, .int .u32 mq] 81)).ownsRow W2.heap.size 81 2 (.slice A k c) k fm ∧ W2.heap.size ≤ (w6.alloc (.cells #[.int .u32 mp, .int .u32 mq] 81)).heap.size) from by
            have hk7 := (HKK.out w6 hb6).alloc (.cells #[.int .u32 mp, .int .u32 mq] 81)
            refine ⟨(HKK.out w6 hb6).cell 1, hk7.cell 1, Lib.hid ⟨?_, ?_⟩⟩
            · obtain ⟨h1, h2 | ⟨g, cap, cur, e, h3, h4, h5⟩⟩ := HOO.out w6 hb6
              · exact ⟨h1, .inl h2⟩
              · exact ⟨h1, .inr ⟨g, cap, cur, e, h3, (Below.heap_alloc _ _ _ (Array.getElem?_eq_some_iff.1 h4).1).trans h4, h5⟩⟩
            · have hz6 : W2.heap.size ≤ w6.heap.size := Nat.le_trans HSZ.out hb6.size
              rw [World.size_alloc]; omega)
          have HAFT := Lib.hid fun (w6 : World) (hb6 : Below wr.drew.heap.size wr.drew w6) (gg cap : Nat) (w8 : World) (hown8 : w8.ownsRow W2.heap.size 81 2 (.slice (some ⟨gg, 0, none⟩) (k + 1) cap) (k + 1) (fm ++ [.int .u32 mp, .int .u32 mq])) (hgrow : (w6.alloc (.cells #[.int .u32 mp, .int .u32 mq] 81)).grownBy w8 (Value.slice A k c).ownBlock) => (show
              w8.cell? ⟨tb, 1, none⟩ = some (.slice A k c) ∧ w8.frozen? ⟨tb, 1, none⟩ = false ∧
              Hid (Blk (w8.setCell ⟨tb, 1, none⟩ (.slice (some ⟨gg, 0, none⟩) (k + 1) cap)) tb 73 #[.int .i64 V, .slice (some ⟨gg, 0, none⟩) (k + 1) cap] ∧
                (w8.setCell ⟨tb, 1, none⟩ (.slice (some ⟨gg, 0, none⟩) (k + 1) cap)).ownsRow W2.heap.size 81 2 (.slice (some ⟨gg, 0, none⟩) (k + 1) cap) (k + 1) (fm ++ [.int .u32 mp, .int .u32 mq]) ∧
                Below w1.heap.size w1 (w8.setCell ⟨tb, 1, none⟩ (.slice (some ⟨gg, 0, none⟩) (k + 1) cap)) ∧ W2.heap.size ≤ (w8.setCell ⟨tb, 1, none⟩ (.slice (some ⟨gg, 0, none⟩) (k + 1) cap)).heap.size) from by
            have hz6 : W2.heap.size ≤ w6.heap.size := Nat.le_trans HSZ.out hb6.size
            have hlt6 : tb < w6.heap.size := Nat.lt_of_lt_of_le HWR.out hb6.size
            have hk7 := (HKK.out w6 hb6).alloc (.cells #[.int .u32 mp, .int .u32 mq] 81)
            have hne : ¬ (some tb = (Value.slice A k c).ownBlock) := fun e => HNEB.out tb e.symm rfl
            have hk8 : Blk w8 tb 73 #[.int .i64 V, .slice A k c] := hk7.mod (Mod.grown hgrow) hne
            refine ⟨hk8.cell 1, hk8.frozen 1, Lib.hid ⟨?_, ?_, ?_, ?_⟩⟩
            · simpa using hk8.set_ 1 (.slice (some ⟨gg, 0, none⟩) (k + 1) cap)
            · obtain ⟨h1, ⟨e, _⟩ | ⟨g, cap', cur, e, h3, h4, h5⟩⟩ := hown8
              · cases e
              · cases e
                refine ⟨h1, .inr ⟨gg, cap, cur, rfl, h3, (Below.heap_setCell _ _ _ gg (show gg ≠ tb from ?_)).trans h4, h5⟩⟩
                have := HLTB.out
                omega
            · have hb7 : Below w1.heap.size w1 (w6.alloc (.cells #[.int .u32 mp, .int .u32 mq] 81)) := (HBW.out.trans ((HBB.out w6 hb6).mono HBW.out.size)).alloc (Nat.le_trans HBW.out.size hb6.size) _
              have hb8 : Below w1.heap.size w1 w8 := hb7.trans ((Mod.grown hgrow).below (fun i _ e => by
                rcases HOW.out.2 with ⟨e', _⟩ | ⟨g, cap', cur, e', h3, _⟩
                · rw [e'] at e; cases e
                · rw [e'] at e
                  simp only [Value.ownBlock, Option.some.injEq] at e
                  subst e
                  exact Nat.le_trans (by have := HWS.out; omega) h3) hb7.size)
              exact hb8.setCell (p := ⟨tb, 1, none⟩) (by have := HTB.out; show w1.heap.size ≤ tb; omega) _
            · have h1 := hgrow.size
              rw [World.size_alloc] at h1
              show W2.heap.size ≤ (World.setCell w8 _ _).heap.size
              simp [World.setCell]
              omega)
          go_upto_region 10 with (fail)
          go_region_law (first
            | (refine step_append_lies _ (by rfl) _ _ _ (by rfl) W2.heap.size 81 iM _ 2 8 Try.underlying71 HIM.out HZ0.out HZ1'.out HZ2.out rfl (by omega) (.slice A k c) k fm (by rfl) HO7.out.1 ⟨w6.heap.size, 0, none⟩ 1 1 [.int .u32 mp, .int .u32 mq] (by rfl) (by rfl) (World.news_of_block (cs := #[.int .u32 mp, .int .u32 mq]) (t := 81) (fr := (0, 0)) (heap_alloc_new w6 _)) (fun u hu => by rcases List.mem_cons.1 hu with rfl | hu; rfl; obtain rfl := List.mem_singleton.1 hu; rfl) (by omega) (by unfold maxLen; omega) (by omega) HO7.out.2 (w6.heap.size + 1) (World.size_alloc _ _) ?_; intro gg cap w8 hown8 hgrow hat hlt8; obtain ⟨c8, f8, H8⟩ := HAFT.out w6 HB6.out gg cap w8 hown8 hgrow; clear hown8 hgrow hat hlt8)
            | (go_simp; go_at_call 50; refine HC.out.mono ?_; rintro e w6 ⟨rfl, hb6⟩; obtain ⟨c6, c7, HO7⟩ := HPRE.out w6 hb6; have HB6 := Lib.hid hb6; clear hb6))
          all_goals
            go_wp2
            go_roundg (gk - 1)
            case measure => have := HMK.out; omega
            case rel => exact ⟨k + 1, _, _, by have := HMK.out; omega, by go_num, H8.out.1, by rw [HTA.out]; exact H8.out.2.1, H8.out.2.2.1, H8.out.2.2.2⟩
        · have HKN := Lib.hid (show k = cn by have := HMK.out; omega)
          have HTT := Lib.hid (show cs.take k = cs by rw [List.take_of_length_le (by rw [← HL.out]; omega)])
          have hkt := HKT.out
          have p0 : wr.cell? ⟨tb, 0, none⟩ = some (.int .i64 V) := HKT.out.cell 0
          have p1 : wr.cell? ⟨tb, 1, none⟩ = some (.slice A k c) := HKT.out.cell 1
          have HK1W := Lib.hid (K11.out.below HBW.out)
          have r0 : wr.cell? ⟨w.heap.size + 1, 0, none⟩ = some (.int .i64 0) := HK1W.out.cell 0
          have r1 : wr.cell? ⟨w.heap.size + 1, 1, none⟩ = some (.slice none 0 0) := HK1W.out.cell 1
          have s0 : wr.frozen? ⟨w.heap.size + 1, 0, none⟩ = false := HK1W.out.frozen 0
          have s1 : wr.frozen? ⟨w.heap.size + 1, 1, none⟩ = false := HK1W.out.frozen 1
          clear hkt
          go_wp2
          have E1 := Blk.set_ (Blk.set_ HK1W.out 0 (.int .i64 V)) 1 (.slice A k c)
          have HMD := Lib.hid (show Mem.Mod (fun i => i = w.heap.size + 1) wr ((wr.setCell ⟨w.heap.size + 1, 0, none⟩ (.int .i64 V)).setCell ⟨w.heap.size + 1, 1, none⟩ (.slice A k c)) from Mod.setCell (Mod.setCell (Mod.refl (fun i => i = w.heap.size + 1) wr) (p := ⟨w.heap.size + 1, 0, none⟩) (.inl rfl) _) (p := ⟨w.heap.size + 1, 1, none⟩) (.inl rfl) _)
          refine bodyPost_ret (results_cell_tmp (ty := 73) rfl _ _ (w.heap.size + 1) 73 #[.int .i64 V, .slice A k c] (0, 0) _ rfl E1 Try.underlying73 rfl (by kernel_rfl)) rfl ?_
          refine ⟨.inr ⟨HE.out, V, A, k, c, rfl, by omega, rfl, ?_⟩, (HB.out.setCell (p := ⟨w.heap.size + 1, 0, none⟩) (Nat.le_succ _) _).setCell (p := ⟨w.heap.size + 1, 1, none⟩) (Nat.le_succ _) _⟩
          have hown := HOW.out
          rw [HTT.out] at hown
          refine ms_own (base := W2.heap.size) (t := 81) (c := c) ?_ (by have := HKN.out; omega) (fun m hm => ?_)
          · obtain ⟨h1, h2 | ⟨g, cap, cur, e, h3, h4, h5⟩⟩ := hown
            · exact ⟨h1, .inl h2⟩
            · exact ⟨h1, .inr ⟨g, cap, cur, e, h3, (HMD.out.block g (Array.getElem?_eq_some_iff.1 h4).1 (by have := HWS.out; have := HZ1.out; have := HW0.out; omega)).trans h4, h5⟩⟩
          · obtain ⟨x, hx, rfl⟩ := List.mem_map.1 hm
            have := mask_lt x.l (0, 0) (fun y hy => by have := HTK.out.2.2.2.2 x hx y hy; have := HTK.out.2.2.1; omega) (by decide) (by decide)
            exact ⟨Nat.lt_of_lt_of_le this.1 (by decide), Nat.lt_of_lt_of_le this.2 (by decide)⟩
  · have HE := Lib.hid (HT.out.trans (if_neg (fun h => h0 h.1)))
    have HNE := Lib.hid h0
    have h1 : (rightE N cs == 0) = false := by simpa using h0
    clear h0
    go_wp2
    have E1 := Blk.set_ (Blk.set_ K11.out 0 (.int .i64 0)) 1 (.slice none 0 0)
    refine bodyPost_ret (results_cell_tmp (ty := 73) rfl _ _ (w.heap.size + 1) 73 #[.int .i64 0, .slice none 0 0] (0, 0) _ rfl E1 Try.underlying73 rfl (by kernel_rfl)) rfl ?_
    exact ⟨.inl ⟨by rw [HE.out]; exact HNE.out, by rw [HE.out]; rfl⟩, (HB1.out.setCell (p := ⟨w.heap.size + 1, 0, none⟩) (Nat.le_succ _) _).setCell (p := ⟨w.heap.size + 1, 1, none⟩) (Nat.le_succ _) _⟩
end Go.Proofs.Ytfpohiflpemkjaa.Tr
