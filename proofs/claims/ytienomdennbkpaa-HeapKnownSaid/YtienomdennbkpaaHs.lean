/- The document's heap: Bump, Copy. Conditions: the memory. -/
import Derived.Test.YtienomdennbkpaaHr
namespace Go.Proofs.Ytienomdennbkpaa.He
open Go.RowKit Go.Proofs.Ytienomdennbkpaa.Mem Go.Proofs.Ytienomdennbkpaa.Sl Go.Shelf
open Go.Proofs.Ytienomdennbkpaa.FnL (enc_at below_then)
set_option linter.unusedVariables false

theorem RH.setS {w : World} {B N : Nat} {d : DA} {s l : List Int} (h : RH w B N d s l) {v : Nat} (hv : v ≤ N) (x : Int) :
    RH (w.setCell ⟨d.s, v, none⟩ (.int .i64 x)) B N d (s.set v x) l := by
  have hm : Mod (fun j => j = d.s) w (w.setCell ⟨d.s, v, none⟩ (.int .i64 x)) := Mod.setCell (S := fun j => j = d.s) (Mod.refl _ _) (p := ⟨d.s, v, none⟩) (.inl rfl) _
  have h1 := h.sr.set_ v (by rw [LZ_len, h.sl]; omega) (.int .i64 x)
  rw [LZ_set] at h1
  exact ⟨h.blk.mod hm h.gs, h1, h.lr.mod hm (fun i _ e => (h.gl e).2), by rw [List.length_set]; exact h.sl, h.rg, h.nd, h.bg, h.hN⟩
theorem dbump_bad {w : World} {B N : Nat} {d : DA} {s l : List Int} (h : RH w B N d s l) (v y : Int) (hb : isB N v = false ∨ y < 0 ∨ MOST < y) :
    Calls Try.prog 43 #[.pointer (some ⟨d.g, 0, none⟩), .int .i64 v, .int .i64 y] w fun e w' => e = .returned (.tuple #[.bool false, .int .i64 2]) ∧ w = w' := by
  have HI := Lib.hid (dis_any h v)
  clear h
  generalize hbb : isB N v = b at *
  clear hbb
  rcases b with _ | _
  · clear hb
    go_enter Try.func43, Try.ntmps43
    go_wp2_with fail
    refine HI.out.mono ?_
    rintro e w1 ⟨rfl, rfl⟩
    go_wp2
    go_ret2
    exact ⟨rfl, rfl⟩
  · have hb2 : y < 0 ∨ MOST < y := hb.resolve_left (by simp)
    clear hb
    by_cases h0 : y < 0
    · clear hb2
      go_enter Try.func43, Try.ntmps43
      go_wp2_with fail
      refine HI.out.mono ?_
      rintro e w1 ⟨rfl, rfl⟩
      go_wp2
      go_ret2
      exact ⟨rfl, rfl⟩
    · have h1 : 1152921504606846976 < y := hb2.resolve_left h0
      clear hb2
      go_enter Try.func43, Try.ntmps43
      go_wp2_with fail
      refine HI.out.mono ?_
      rintro e w1 ⟨rfl, rfl⟩
      go_wp2
      go_ret2
      exact ⟨rfl, rfl⟩
theorem take_succ_perm (l : List Int) {k : Nat} (h : k < l.length) : (l.getD k 0 :: l.take k).Perm (l.take (k + 1)) := by
  have h1 : l.take (k + 1) = l.take k ++ [l.getD k 0] := by
    rw [List.take_add_one, List.getElem?_eq_getElem h, List.getD_eq_getElem?_getD, List.getElem?_eq_getElem h]; rfl
  rw [h1]
  exact List.perm_append_comm (l₁ := [l.getD k 0]) (l₂ := l.take k)
theorem notin_take {l : List Int} (hn : l.Nodup) {k : Nat} (h : k < l.length) : l.getD k 0 ∉ l.take k := fun hm => by
  obtain ⟨j, hj, he⟩ := List.getElem_of_mem hm
  rw [List.length_take] at hj
  rw [List.getElem_take] at he
  have h2 : l.getD k 0 = l[k] := by rw [List.getD_eq_getElem?_getD, List.getElem?_eq_getElem h]; rfl
  rw [h2] at he
  have := (List.nodup_iff_pairwise_ne.1 hn)
  have h3 := List.pairwise_iff_getElem.1 this j k (by omega) h (by omega)
  exact h3 he
theorem bumpF_dec (s : List Int) (v : Nat) (y : Int) {x : Int} (hx : x = s.getD v 0) : bumpF s v y = if decide (1152921504606846976 < x + y) = true then (bumpS s v y).map hlf else bumpS s v y := by
  unfold bumpF
  rw [← hx]
  by_cases hm : MOST < x + y
  · rw [if_pos hm, if_pos (decide_eq_true hm)]
  · rw [if_neg hm, if_neg (by rw [decide_eq_true_eq]; exact hm)]
set_option maxRecDepth 100000 in
set_option maxHeartbeats 2000000 in
theorem dbump_ok {w : World} {B N : Nat} {d : DA} {s l : List Int} (h : RH w B N d s l) (hB : B ≤ w.heap.size) (hsb : ∀ x, x ∈ s → 0 ≤ x ∧ x ≤ MOST) (v : Nat) (y : Int) (hv : 1 ≤ v ∧ v ≤ N) (hy : 0 ≤ y ∧ y ≤ MOST) :
    Calls Try.prog 43 #[.pointer (some ⟨d.g, 0, none⟩), .int .i64 (v : Int), .int .i64 y] w fun e w' => e = .returned (.tuple #[.bool (decide (MOST < s.getD v 0 + y)), .int .i64 0]) ∧ DNext w B N d (bumpF s v y) l w' := by
  have HI := Lib.hid (dis_any h (v : Int))
  rw [show isB N (v : Int) = true from decide_eq_true ⟨by omega, by omega⟩] at HI
  have c2 : w.cell? ⟨d.g, 0, none⟩ = some (.slice (some ⟨d.s, 0, none⟩) (N + 1) d.sc) := h.blk.cell 0
  have cv : w.cell? ⟨d.s, v, none⟩ = some (.int .i64 (s.getD v 0)) := h.sc_ (v := v) hv.2
  have fv := h.sr.frozen v
  have hsl : s.length = N + 1 := h.sl
  have hsv : 0 ≤ s.getD v 0 ∧ s.getD v 0 ≤ 1152921504606846976 := hsb (s.getD v 0) (getD_mem (l := s) (by omega))
  have hN := h.hN
  have hl := h.lenN
  have e1 : (v : Int) < (N : Int) + 1 := by omega
  have e2 : v < N + 1 := by omega
  obtain ⟨x, hx⟩ : ∃ x, x = s.getD v 0 := ⟨_, rfl⟩
  rw [← hx] at cv hsv ⊢
  have hy2 : y ≤ 1152921504606846976 := hy.2
  have hy0 := hy.1
  have hy3 : ¬ y < 0 := by omega
  have hy4 : ¬ 1152921504606846976 < y := by omega
  have e3 : IntKind.i64.wrap (x + y) = x + y := IntWalk.i64_in _ (by omega)
  obtain ⟨W1, hW1⟩ : ∃ W1, W1 = (w.setCell ⟨d.s, v, none⟩ (.int .i64 (x + y))).drew := ⟨_, rfl⟩
  have HR1 := Lib.hid (show RH W1 B N d (bumpS s v y) l ∧ Mod (fun i => i = d.g ∨ i = d.s) w W1 from by
    rw [hW1]
    unfold bumpS
    rw [← hx]
    exact ⟨(h.setS hv.2 (x + y)).drewN 1, (Mod.setCell (S := fun i => i = d.g ∨ i = d.s) (Mod.refl _ w) (p := ⟨d.s, v, none⟩) (.inl (.inr rfl)) _).drew⟩)
  have z2 : W1.cell? ⟨d.g, 0, none⟩ = some (.slice (some ⟨d.s, 0, none⟩) (N + 1) d.sc) := HR1.out.1.blk.cell 0
  have zv : W1.cell? ⟨d.s, v, none⟩ = some (.int .i64 (x + y)) := by
    rw [hW1]; exact World.cell?_setCell_same _ _ _ cv
  have HW1 := Lib.hid hW1
  have HH := Lib.hid h
  have HBS := Lib.hid hB
  have HXX := Lib.hid hx
  have HBF := Lib.hid (bumpF_dec s v y hx)
  have HBL := Lib.hid (show (bumpS s v y).length = N + 1 by unfold bumpS; rw [List.length_set]; exact hsl)
  generalize bumpF s v y = s2 at *
  generalize bumpS s v y = s1 at *
  clear hW1 h hB hsb hv hy hx hsl
  go_enter Try.func43, Try.ntmps43
  go_wp2_with fail
  refine HI.out.mono ?_
  rintro e w1 ⟨rfl, rfl⟩
  go_wp2_with fail
  refine wp_region_still_tail 15 (by kernel_rfl) (by kernel_rfl) ?_
  change wpStill _ _ w.drew _ _ _
  simp only [List.take_succ_cons, List.take_zero, List.drop_succ_cons, List.drop_zero]
  repeat still_step
  refine wpStill_nil ?_
  change wpList _ _ _ _ _ w.drew
  go_upto_region 4 with (fail)
  rw [← HW1.out]
  clear c2 cv fv HW1 HI hsv e3
  go_upto_block 0 with (fail)
  generalize hhb : decide (1152921504606846976 < x + y) = hb at HBF ⊢
  have HHB := Lib.hid hhb
  clear hhb
  go_cut [9] from 47 to 72 (fun i wx => (∃ z : Nat, i = .int .i64 z) ∧ RH wx B N d s2 l ∧ Mod (fun i => i = d.g ∨ i = d.s) w wx)
  case first =>
    rcases hb with _ | _
    rotate_left
    · have HE := Lib.hid (HBF.out.trans (if_pos rfl))
      go_wp2_with fail
      go_loopg [9] (N + 1) (fun M i wr => ∃ k : Nat, M + k = N + 1 ∧ i = .int .i64 k ∧ RH wr B N d (halfK k s1) l ∧ Mod (fun i => i = d.g ∨ i = d.s) w wr)
      case atStart => exact ⟨0, rfl, rfl, by rw [halfK_zero]; exact HR1.out.1, HR1.out.2⟩
      case round =>
        clear z2 zv
        obtain ⟨k, hk, rfl, hr, hmd⟩ := hrel
        have HR := Lib.hid hr
        have HM := Lib.hid hmd
        have z2 : wr.cell? ⟨d.g, 0, none⟩ = some (.slice (some ⟨d.s, 0, none⟩) (N + 1) d.sc) := hr.blk.cell 0
        clear hr hmd
        by_cases hlt : k < N + 1
        · have hlt1 : (k : Int) < (N : Int) + 1 := by omega
          obtain ⟨u, hu⟩ : ∃ u, u = s1.getD k 0 := ⟨_, rfl⟩
          have zk : wr.cell? ⟨d.s, k, none⟩ = some (.int .i64 u) := by
            rw [hu, ← halfK_at k s1 (by rw [HBL.out]; omega)]
            exact HR.out.sc_ (v := k) (by omega)
          have fk := HR.out.sr.frozen k
          have HNX := Lib.hid (show RH (wr.setCell ⟨d.s, k, none⟩ (.int .i64 (u / 1073741824))).drew B N d (halfK (k + 1) s1) l ∧ Mod (fun i => i = d.g ∨ i = d.s) w (wr.setCell ⟨d.s, k, none⟩ (.int .i64 (u / 1073741824))).drew from by
            have h1 := HR.out.setS (v := k) (by omega) (hlf (s1.getD k 0))
            rw [halfK_next k _ (by rw [HBL.out]; omega), ← hu] at h1
            exact ⟨h1.drewN 1, (HM.out.setCell (p := ⟨d.s, k, none⟩) (.inl (.inr rfl)) _).drew⟩)
          clear hu
          go_wp2_with fail
          refine wp_region_still_tail 14 (by kernel_rfl) (by kernel_rfl) ?_
          change wpStill _ _ wr.drew _ _ _
          simp only [List.take_succ_cons, List.take_zero, List.drop_succ_cons, List.drop_zero]
          repeat still_step
          refine wpStill_nil ?_
          change wpList _ _ _ _ _ wr.drew
          go_wp2
          go_roundg (gk - 1)
          case rel => exact ⟨k + 1, by omega, by go_num, HNX.out.1, HNX.out.2⟩
          case measure => omega
        · have hlt1 : ¬ (k : Int) < (N : Int) + 1 := by omega
          have HFIN := Lib.hid (show RH wr B N d s2 l from by
            have := HR.out
            rw [show k = s1.length by rw [HBL.out]; omega, halfK_all] at this
            rw [HE.out]; exact this)
          go_wp2_with fail
          go_meet
          case rel => exact ⟨⟨k, rfl⟩, HFIN.out, HM.out⟩
    · have HE := Lib.hid (HBF.out.trans (if_neg (by simp)))
      go_wp2_with fail
      go_loopg [9] 0 (fun M i wr => i = .int .i64 0 ∧ W1 = wr)
      case atStart => exact ⟨rfl, rfl⟩
      case round =>
        obtain ⟨rfl, rfl⟩ := hrel
        go_wp2_with fail
        go_meet
        case rel => exact ⟨⟨0, rfl⟩, by rw [HE.out]; exact HR1.out.1, HR1.out.2⟩
  case rest =>
    clear z2 zv HR1
    obtain ⟨⟨z, rfl⟩, hr, hmd⟩ := hcut
    have HR0 := Lib.hid (show RH wc B N d s2 l ∧ Mod (fun i => i = d.g ∨ i = d.s) w wc from ⟨hr, hmd⟩)
    have c1 : wc.cell? ⟨d.g, 1, none⟩ = some (.slice d.lA l.length d.lc) := hr.blk.cell 1
    have f1 := hr.blk.frozen 1
    have HNX := Lib.hid (show NextD wc B N d s2 [] (wc.setCell ⟨d.g, 1, none⟩ (.slice none 0 0)) ∧ RdV (wc.setCell ⟨d.g, 1, none⟩ (.slice none 0 0)) d.lA (LZ l) from
      ⟨hr.newL (W := wc) (A := none) (c := 0) (by have := hmd.size; have := HBS.out; omega) (Below.refl _ _) (App.Own.nil _ _ _) (fun x hx => (by cases hx)) List.nodup_nil,
       hr.lr.rd.mod (Mod.setCell (S := fun j => j = d.g) (Mod.refl _ wc) (p := ⟨d.g, 1, none⟩) (.inl rfl) (.slice none 0 0)) (fun b off e e2 => by
         subst e2
         obtain ⟨_, ⟨e3, _⟩ | ⟨g, e3, _⟩⟩ := hr.lr
         · rw [e] at e3; cases e3
         · rw [e] at e3
           cases e3
           exact (hr.gl e).1 rfl)⟩)
    have HNE := Lib.hid (show ∀ b off, d.lA = some ⟨b, off, none⟩ → b ≠ d.g ∧ b ≠ d.s from fun b off e => by
      obtain ⟨_, ⟨e3, _⟩ | ⟨g, e3, _⟩⟩ := hr.lr
      · rw [e] at e3; cases e3
      · rw [e] at e3
        cases e3
        exact hr.gl e)
    have HRG := Lib.hid (show (∀ x, x ∈ l → 1 ≤ x ∧ x ≤ N) ∧ l.Nodup from ⟨hr.rg, hr.nd⟩)
    clear hr hmd
    go_wp2_with fail
    obtain ⟨lA, hlA⟩ : ∃ lA, lA = d.lA := ⟨_, rfl⟩
    rw [← hlA] at HNX HNE ⊢
    clear hlA c1 f1
    go_loopw [11] (fun i wr => ∃ (k : Nat) (d1 : DA) (l1 : List Int), k ≤ l.length ∧ i = .int .i64 k ∧ RH wr B N d1 s2 l1 ∧ (d1.g = d.g ∧ d1.s = d.s) ∧ (∀ i, mineD d1 i → mineD d i ∨ w.heap.size ≤ i) ∧ Ord s2 l1 (l.take k) ∧ RdV wr lA (LZ l) ∧ Mod (fun i => i = d.g ∨ i = d.s) w wr) (fun i _ => l.length - (intOf i).toNat)
    case atStart =>
      obtain ⟨⟨d', k1, k2, k3, k4⟩, k5⟩ := HNX.out
      exact ⟨0, d', [], Nat.zero_le _, rfl, k1, k2, fun i hi => (k3 i hi).imp id (fun e => Nat.le_trans HR0.out.2.size e), ⟨List.Perm.refl _, List.Pairwise.nil⟩, k5, HR0.out.2.then_ k4⟩
    case round =>
      clear HNX HR0
      obtain ⟨k, d1, l1, hk, rfl, hr, hg, hsub, hord, hrd, hmd⟩ := hrel
      have HR := Lib.hid hr
      have HG := Lib.hid hg
      have HSUB := Lib.hid hsub
      have HORD := Lib.hid hord
      have HRD := Lib.hid hrd
      have HM := Lib.hid hmd
      clear hr hg hsub hord hmd
      by_cases hlt : k < l.length
      · obtain ⟨b, off, rfl, hbw, ck⟩ := RdV.at_ hrd (LZ_at hlt)
        have hrg := HRG.out.1 _ (getD_mem hlt)
        obtain ⟨u, hu⟩ : ∃ u : Nat, l.getD k 0 = (u : Int) := ⟨(l.getD k 0).toNat, by omega⟩
        have HU := Lib.hid hu
        rw [hu] at ck hrg
        have hlt1 : (k : Int) < (l.length : Int) := by omega
        have HP := Lib.hid (put_any HR.out (by have := HM.out.size; have := HBS.out; omega) HORD.out.2 u ⟨by omega, by omega⟩ (fun hm => notin_take HRG.out.2 hlt (by rw [hu]; exact HORD.out.1.mem_iff.1 hm)))
        rw [HG.out.1] at HP
        clear hu hrg hrd hbw
        go_wp2_with fail
        refine HP.out.mono ?_
        rintro e w4 ⟨rfl, l2, ⟨d2, k1, k2, k3, k4⟩, k5⟩
        have HNR := Lib.hid (show RH w4 B N d2 s2 l2 ∧ (d2.g = d.g ∧ d2.s = d.s) ∧ (∀ i, mineD d2 i → mineD d i ∨ w.heap.size ≤ i) ∧ Ord s2 l2 (l.take (k + 1)) ∧ RdV w4 (some ⟨b, off, none⟩) (LZ l) ∧ Mod (fun i => i = d.g ∨ i = d.s) w w4 from by
          rw [HG.out.1, HG.out.2] at k4
          refine ⟨k1, ⟨k2.1.trans HG.out.1, k2.2.trans HG.out.2⟩, fun i hi => ?_, ⟨k5.1.trans ((HORD.out.1.cons _).trans (by rw [← HU.out]; exact take_succ_perm l hlt)), k5.2⟩, HRD.out.mod k4 (fun b' off' e hS => ?_), HM.out.then_ k4⟩
          · rcases k3 i hi with h1 | h1
            · exact HSUB.out i h1
            · exact .inr (Nat.le_trans HM.out.size h1)
          · have := HNE.out b' off' e
            rcases hS with h1 | h1
            · exact this.1 h1
            · exact this.2 h1)
        clear k1 k2 k3 k4 k5 HP
        go_wp2
        go_roundw
        case rel => exact ⟨k + 1, d2, l2, by omega, by go_num, HNR.out.1, HNR.out.2.1, HNR.out.2.2.1, HNR.out.2.2.2.1, HNR.out.2.2.2.2.1, HNR.out.2.2.2.2.2⟩
        case measure => simp [intOf]; omega
      · have hlt1 : ¬ (k : Int) < (l.length : Int) := by omega
        have HK := Lib.hid (show l.take k = l from List.take_of_length_le (by omega))
        have HFIN := Lib.hid (show DNext w B N d s2 l wr from ⟨l1, ⟨d1, HR.out, HG.out, HSUB.out, HM.out⟩, by have := HORD.out; rw [HK.out] at this; exact this⟩)
        clear hrd
        go_wp2
        go_ret2
        rw [← HHB.out]
        exact ⟨rfl, HFIN.out⟩
end Go.Proofs.Ytienomdennbkpaa.He
