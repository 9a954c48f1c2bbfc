/- The walks of Kind and Save of the document's store. -/
import Derived.Test.YtcmicmghnmklnaaPhU
namespace Go.Proofs.Ytcmicmghnmklnaa.Ph
open Go.RowKit Go.Proofs.Ytcmicmghnmklnaa.Mem Go.Proofs.Ytcmicmghnmklnaa.Sl Go.Shelf
set_option linter.unusedVariables false

set_option maxRecDepth 100000 in
theorem rkind_ok (t : Int) (h0 : 0 ≤ t) (h1 : t ≤ 4611686018427387904) (w : World) :
    Calls Try.prog 46 #[.int .i64 t] w fun e w' => e = .returned (.int .u8 (kindN t)) ∧ Below w.heap.size w w' := by
  by_cases h2 : t < 2
  · have hk : kindN t = t := by unfold kindN; rw [if_pos h2]
    have HK := Lib.hid hk
    clear hk
    have hw : IntKind.u8.wrap t = t := by rw [IntKind.wrap_u8]; omega
    go_enter Try.func46, Try.ntmps46
    go_wp2
    go_ret
    exact ⟨by rw [HK.out]; rfl, Below.refl _ _⟩
  · have hr : (t - 2) % 6 = 0 ∨ (t - 2) % 6 = 1 ∨ (t - 2) % 6 = 2 ∨ (t - 2) % 6 = 3 ∨ (t - 2) % 6 = 4 ∨ (t - 2) % 6 = 5 := by omega
    have HT := Lib.hid (show (t - 2).tmod 6 = (t - 2) % 6 from Int.tmod_eq_emod_of_nonneg (by omega))
    have HK := Lib.hid (show kindN t = [2, 3, 0, 2, 4, 1].getD ((t - 2) % 6).toNat 0 by unfold kindN; rw [if_neg h2])
    rcases hr with hr | hr | hr | hr | hr | hr <;> (
      rw [hr] at HT HK
      have ht := HT.out
      have HR := Lib.hid hr
      clear hr
      go_enter Try.func46, Try.ntmps46
      go_wp2
      go_ret
      exact ⟨by rw [HK.out]; rfl, (Below.refl _ _).alloc (Nat.le_refl _) _⟩)
theorem Rf.saved_ {w w' : World} {B g : Nat} {m : PM} {r : RV} (h : Rf w B g m r) (hm : Mod (fun i => r.vA = some ⟨i, 0, none⟩) w w') (v : List Bool) (hv : v.length = m.saved.length) (hr : ValI w' B r.vA v r.vc) : Rf w' B g { m with saved := v } r := by
  have h3 : ∀ i cs, Blk w i 35 cs → ¬ r.vA = some ⟨i, 0, none⟩ := fun i cs hc e => by
    rcases h.val with ⟨k, _⟩ | ⟨j, k1, _, k3⟩
    · rw [k] at e; cases e
    · rw [k1] at e
      cases e
      exact k3.ne_blk hc (by decide) rfl
  have hb := h.blk.mod hm (fun e => h.ne_val e rfl)
  refine ⟨?_, hr, h.t.mod hm h3, h.b.mod hm h3, h.bg, by show v.length ≤ _; rw [hv]; exact h.len, h.st0, h.st1, h.tu0, ?_, ?_, ?_, ?_, h.tm, h.bm⟩
  · unfold RfC at hb ⊢; show Blk w' g _ #[.slice r.vA v.length r.vc, _, _, _, _, _, _, _]; rw [hv]; exact hb
  all_goals (show _)
  · show Fits v.length _; rw [hv]; exact h.tf
  · show Fits v.length _; rw [hv]; exact h.bf
  · show ∀ j, m.tv.getD j 0 = (rowOf r.tL v.length).getD j 0; rw [hv]; exact h.tv
  · show ∀ j, m.bv.getD j 0 = (rowOf r.bL v.length).getD j 0; rw [hv]; exact h.bv
set_option maxRecDepth 100000 in
theorem rsave_any {w : World} {B g : Nat} {m : PM} {r : RV} (h : Rf w B g m r) (a : Option Addr) (cap : Nat) (l : List Int) (n : Nat) (hn : n = l.length) (hm : n ≤ 140737488351232) (hr : RdV w a (l.map (Value.int .i32))) (hd : 0 < l.length → ∀ b off, a = some ⟨b, off, none⟩ → ¬ r.vA = some ⟨b, 0, none⟩)
    (hli : ∀ k, k < l.length → -2147483648 ≤ l.getD k 0 ∧ l.getD k 0 ≤ 2147483647) :
    Calls Try.prog 36 #[.pointer (some ⟨g, 0, none⟩), .slice a n cap] w fun e w' => e = .returned (.int .i64 (noE (mayB m.saved.length l))) ∧ Rf w' B g (saveM m l) r ∧ Mod (fun i => r.vA = some ⟨i, 0, none⟩) w w' := by
  have HM := Lib.hid (rmay_any g m.saved.length r.vA r.vc a cap l n w h.len (h.blk.cell 0) hn hm hr hli)
  have HR := Lib.hid hr
  have HN := Lib.hid hn
  have HP := Lib.hid h
  have HD := Lib.hid hd
  have hlen := h.len
  clear hr hn h hd hli
  by_cases hb : mayB m.saved.length l = true
  · have HF := Lib.hid (fits_of_may hb)
    have HE := Lib.hid (show noE (mayB m.saved.length l) = 0 by rw [hb]; rfl)
    have HS := Lib.hid (show saveM m l = { m with saved := l.foldl putS m.saved } by unfold saveM; rw [hb]; rfl)
    rw [hb] at HM
    clear hb
    go_enter Try.func36, Try.ntmps36
    go_wp2_with fail
    refine HM.out.mono ?_
    rintro e w1 ⟨rfl, rfl⟩
    go_wp2_with fail
    go_loopw [5] (fun x wr => ∃ k : Nat, k ≤ n ∧ x = .int .i64 k ∧ Mod (fun i => r.vA = some ⟨i, 0, none⟩) w wr ∧ ValI wr B r.vA ((l.take k).foldl putS m.saved) r.vc) (fun x _ => n - (intOf x).toNat)
    case atStart => exact ⟨0, Nat.zero_le _, rfl, Mod.refl _ _, HP.out.val⟩
    case round =>
      obtain ⟨k, hk, rfl, km, kr⟩ := hrel
      have L1 := Lib.hid km
      have L2 := Lib.hid kr
      by_cases hlt : k < n
      · have hkl : k < l.length := by rw [← HN.out]; exact hlt
        obtain ⟨b, off, ha, hb, hc⟩ := RdV.at_ (mod_rd HR.out km HD.out) (ints_at (k := .i32) hkl)
        subst ha
        obtain ⟨hx0, hx1, hx2⟩ := HF.out k hkl
        have HT := Lib.hid (foldl_snoc putS m.saved l k hkl)
        have HL := Lib.hid (foldl_putS_len (l.take k) m.saved)
        have c0 : wr.cell? ⟨g, 0, none⟩ = some (.slice r.vA m.saved.length r.vc) := (HP.out.blk.mod km (fun e => HP.out.ne_val e rfl)).cell 0
        obtain ⟨gv, hgv, hB, hrow⟩ : ∃ gv, r.vA = some ⟨gv, 0, none⟩ ∧ B ≤ gv ∧ Row wr gv 4 (((l.take k).foldl putS m.saved).map Value.bool) r.vc := by
          rcases kr with ⟨_, k2, _⟩ | ⟨j, k1, k2, k3⟩
          · have := HL.out; rw [k2] at this; simp at this; omega
          · exact ⟨j, k1, k2, k3⟩
        rw [hgv] at c0
        have HGV := Lib.hid hgv
        have HB := Lib.hid hB
        have HROW := Lib.hid hrow
        generalize l.getD k 0 = x at *
        generalize hq : (l.take k).foldl putS m.saved = q at *
        clear hq
        have f1 := fun i => hrow.frozen i
        have C1 := Lib.hid (show ∀ i, i < m.saved.length → wr.cell? ⟨gv, i, none⟩ = some (.bool (q.getD i false)) from fun i hi => hrow.cell (bools_at (by rw [HL.out]; exact hi)))
        clear km kr hkl hrow hgv hB
        by_cases hp : 0 < x
        · have hset := Lib.hid (show putS q x = q.set (x.toNat - 1) true by unfold putS; rw [decide_eq_true hp, show x.natAbs = x.toNat by omega])
          have c4 : wr.cell? ⟨gv, x.toNat - 1, none⟩ = some (.bool (q.getD (x.toNat - 1) false)) := C1.out _ (by omega)
          have f4 : wr.frozen? ⟨gv, x.toNat - 1, none⟩ = false := f1 _
          clear f1
          have i1 : (0 : Int) ≤ x - 1 := by omega
          have i2 : x - 1 < (m.saved.length : Int) := by omega
          have i3 : IntKind.i32.wrap (x - 1) = x - 1 := IntWalk.i32_in _ (by omega)
          go_wp2_with fail
          go_region
          all_goals go_wp2
          go_roundw
          case rel =>
            refine ⟨k + 1, by omega, by go_num, (L1.out.setCell (p := ⟨gv, x.toNat - 1, none⟩) (.inl HGV.out) _).drew, .inr ⟨gv, HGV.out, HB.out, ?_⟩⟩
            rw [HT.out, hset.out]
            have := Row.set_ HROW.out (x.toNat - 1) (by rw [List.length_map, HL.out]; omega) (.bool true)
            have h2 : Row (wr.setCell ⟨gv, x.toNat - 1, none⟩ (.bool true)).drew gv 4 _ _ := Row.drewN this 1
            simpa [List.map_set] using h2
          case measure => simp [intOf]; omega
        · have hset := Lib.hid (show putS q x = q.set ((-x).toNat - 1) false by unfold putS; rw [decide_eq_false hp, show x.natAbs = (-x).toNat by omega])
          have c4 : wr.cell? ⟨gv, (-x).toNat - 1, none⟩ = some (.bool (q.getD ((-x).toNat - 1) false)) := C1.out _ (by omega)
          have f4 : wr.frozen? ⟨gv, (-x).toNat - 1, none⟩ = false := f1 _
          clear f1
          have i0 : IntKind.i32.wrap (-x) = -x := IntWalk.i32_in _ (by omega)
          have i1 : (0 : Int) ≤ -x - 1 := by omega
          have i2 : -x - 1 < (m.saved.length : Int) := by omega
          have i3 : IntKind.i32.wrap (-x - 1) = -x - 1 := IntWalk.i32_in _ (by omega)
          go_wp2_with fail
          go_region
          all_goals go_wp2
          go_roundw
          case rel =>
            refine ⟨k + 1, by omega, by go_num, (L1.out.setCell (p := ⟨gv, (-x).toNat - 1, none⟩) (.inl HGV.out) _).drew, .inr ⟨gv, HGV.out, HB.out, ?_⟩⟩
            rw [HT.out, hset.out]
            have := Row.set_ HROW.out ((-x).toNat - 1) (by rw [List.length_map, HL.out]; omega) (.bool false)
            have h2 : Row (wr.setCell ⟨gv, (-x).toNat - 1, none⟩ (.bool false)).drew gv 4 _ _ := Row.drewN this 1
            simpa [List.map_set] using h2
          case measure => simp [intOf]; omega
      · have HT := Lib.hid (show l.take k = l from List.take_of_length_le (by rw [← HN.out]; omega))
        clear km kr
        rw [HT.out] at L2
        go_wp2
        go_ret
        exact ⟨by rw [HE.out]; rfl, by rw [HS.out]; exact HP.out.saved_ L1.out _ (foldl_putS_len _ _) L2.out, L1.out⟩
  · have hf : mayB m.saved.length l = false := by simpa using hb
    have HE := Lib.hid (show noE (mayB m.saved.length l) = 2 by rw [hf]; rfl)
    have HS := Lib.hid (show saveM m l = m by unfold saveM; rw [hf]; rfl)
    rw [hf] at HM
    clear hb hf
    go_enter Try.func36, Try.ntmps36
    go_wp2_with fail
    refine HM.out.mono ?_
    rintro e w1 ⟨rfl, rfl⟩
    go_wp2
    go_ret
    exact ⟨by rw [HE.out]; rfl, by rw [HS.out]; exact HP.out, Mod.refl _ _⟩
end Go.Proofs.Ytcmicmghnmklnaa.Ph
