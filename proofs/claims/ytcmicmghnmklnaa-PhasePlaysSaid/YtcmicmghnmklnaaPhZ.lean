/- The walk of Turn of the document's store. -/
import Derived.Test.YtcmicmghnmklnaaPhY
namespace Go.Proofs.Ytcmicmghnmklnaa.Ph
open Go.RowKit Go.Proofs.Ytcmicmghnmklnaa.Mem Go.Proofs.Ytcmicmghnmklnaa.Sl Go.Shelf
set_option linter.unusedVariables false

/-- The value at i is set. -/
theorem Rf.put {w : World} {B g gv : Nat} {m : PM} {r : RV} (h : Rf w B g m r) (hA : r.vA = some ⟨gv, 0, none⟩) (k : Nat) (hk : k < m.saved.length) (b : Bool) : Rf (w.setCell ⟨gv, k, none⟩ (.bool b)) B g { m with saved := m.saved.set k b } r := by
  have hm : Mod (fun i => r.vA = some ⟨i, 0, none⟩) w (w.setCell ⟨gv, k, none⟩ (.bool b)) := Mod.setCell (Mod.refl _ w) (p := ⟨gv, k, none⟩) (.inl hA) _
  refine h.saved_ hm _ (by simp) ?_
  rcases h.val with ⟨h1, h2, _⟩ | ⟨i, h1, h2, h3⟩
  · rw [h1] at hA; cases hA
  · rw [h1] at hA
    cases hA
    exact .inr ⟨gv, h1, h2, by simpa [List.map_set] using h3.set_ k (by simpa using hk) (.bool b)⟩
theorem Rf.row_ {w : World} {B g : Nat} {m : PM} {r : RV} (h : Rf w B g m r) (hk : 0 < m.saved.length) : ∃ gv, r.vA = some ⟨gv, 0, none⟩ ∧ Row w gv 4 (m.saved.map Value.bool) r.vc := by
  rcases h.val with ⟨_, h2, _⟩ | ⟨i, h1, _, h3⟩
  · rw [h2] at hk; exact absurd hk (by simp)
  · exact ⟨i, h1, h3⟩
theorem row_nil (N j : Nat) : ([] : List Int).getD j 0 = (rowOf [] N).getD j 0 := by
  simp [rowOf, List.getD_eq_getElem?_getD, List.getElem?_replicate]; split <;> simp
theorem Rf.clear1 {w w' : World} {B g : Nat} {q : PM} {r : RV} (h : Rf w B g q r) (hm : Mod (fun i => i = g) w w') (t : Int) (ht : 0 ≤ t) (hb : Blk w' g 78 (RfC { q with tn := 0, tv := [], turned := t } { r with tA := none, tc := 0, tL := [] })) : Rf w' B g { q with tn := 0, tv := [], turned := t } { r with tA := none, tc := 0, tL := [] } :=
  ⟨hb, h.val_mod hm, .inl ⟨rfl, rfl, rfl⟩, h.b.mod hm (fun i cs hc => h.ne_lit hc), h.bg, h.len, h.st0, h.st1, ht, fun k hk => absurd hk (by simp), h.bf, fun j => row_nil _ j, h.bv, by simp, h.bm⟩
theorem Rf.clear2 {w w' : World} {B g : Nat} {q : PM} {r : RV} (h : Rf w B g q r) (hm : Mod (fun i => i = g) w w') (t : Int) (ht : 0 ≤ t) (hb : Blk w' g 78 (RfC { q with tn := 0, tv := [], bn := 0, bv := [], turned := t } { r with tA := none, tc := 0, tL := [], bA := none, bc := 0, bL := [] })) : Rf w' B g { q with tn := 0, tv := [], bn := 0, bv := [], turned := t } { r with tA := none, tc := 0, tL := [], bA := none, bc := 0, bL := [] } :=
  ⟨hb, h.val_mod hm, .inl ⟨rfl, rfl, rfl⟩, .inl ⟨rfl, rfl, rfl⟩, h.bg, h.len, h.st0, h.st1, ht, fun k hk => absurd hk (by simp), fun k hk => absurd hk (by simp), fun j => row_nil _ j, fun j => row_nil _ j, by simp, by simp⟩
theorem set_same (l : List Bool) (k : Nat) (hk : k < l.length) : l.set k (l.getD k false) = l := by
  apply List.ext_getElem?
  intro i
  rw [List.getElem?_set]
  split
  · rename_i e; subst e; simp [List.getD_eq_getElem?_getD, hk]
  · rfl
set_option maxRecDepth 100000 in
set_option maxHeartbeats 8000000 in
theorem rturn_ok {w : World} {B g : Nat} {m : PM} {r : RV} (h : Rf w B g m r) (hB : B ≤ w.heap.size) (ht : m.turned ≤ 4611686018427387904) :
    Calls Try.prog 38 #[.pointer (some ⟨g, 0, none⟩)] w fun e w' => ∃ r', e = .returned (.int .u8 (kindN m.turned)) ∧ Rf w' B g (turnM m) r' ∧ r'.vA = r.vA ∧ r'.vc = r.vc ∧ Frs w r r' ∧ Mod (RS g r.vA) w w' := by
  have HP := Lib.hid h
  have HK := Lib.hid (kindN_cases m.turned h.tu0)
  have HC := Lib.hid (fun W => rkind_ok m.turned h.tu0 ht W)
  have c7 : w.cell? ⟨g, 7, none⟩ = some (.int .i64 m.turned) := h.blk.cell 7
  clear h
  go_enter Try.func38, Try.ntmps38
  go_wp2_with fail
  refine (HC.out _).mono ?_
  rintro e w1 ⟨rfl, hb1⟩
  have HB1 := Lib.hid hb1
  have HP1 := Lib.hid (HP.out.below hb1)
  clear hb1 c7
  generalize hkk : kindN m.turned = kk at *
  have HKK := Lib.hid hkk
  clear hkk
  have HN := Lib.hid HP.out.len
  go_wp2_with fail
  go_loopw [4] (fun x wr => ∃ (k : Nat) (q : PM), k ≤ m.saved.length ∧ x = .int .i64 k ∧ Rf wr B g q r ∧ q = loopM kk m k ∧ Mod (RS g r.vA) w wr) (fun x _ => m.saved.length - (intOf x).toNat)
  case atStart => exact ⟨0, m, Nat.zero_le _, rfl, HP1.out, rfl, Mod.none_ HB1.out _⟩
  case round =>
    obtain ⟨k, q, hk, rfl, hq, ha, hm⟩ := hrel
    have HQ := Lib.hid hq
    have HA := Lib.hid ha
    have HM := Lib.hid hm
    have hql : q.saved.length = m.saved.length := by rw [ha]; exact loopM_len _ _ _
    have c0 : wr.cell? ⟨g, 0, none⟩ = some (.slice r.vA m.saved.length r.vc) := by rw [← hql]; exact hq.blk.cell 0
    have hNN := HN.out
    clear hq ha hm
    by_cases hlk : k < m.saved.length
    · obtain ⟨gv, hgv, hrow⟩ := HQ.out.row_ (by omega)
      have hqk : k < q.saved.length := by omega
      have HGV := Lib.hid hgv
      have HROW := Lib.hid hrow
      have cs : wr.cell? ⟨gv, k, none⟩ = some (.bool (q.saved.getD k false)) := hrow.cell (bools_at hqk)
      have fs : wr.frozen? ⟨gv, k, none⟩ = false := hrow.frozen k
      have c1 : wr.cell? ⟨g, 1, none⟩ = some (.bool q.start) := HQ.out.blk.cell 1
      rw [hgv] at c0
      clear hgv hrow
      rcases HK.out with rfl | rfl | rfl | rfl | rfl
      · go_wp2_with fail
        go_region
        all_goals go_wp2
        go_roundw
        case rel =>
          have hput := HQ.out.put HGV.out k hqk q.start
          refine ⟨k + 1, { q with saved := q.saved.set k q.start }, by omega, by go_num, hput.drewN 1, ?_, (HM.out.setCell (p := ⟨gv, k, none⟩) (.inl (.inr HGV.out)) _).drew⟩
          rw [loopM_succ, ← HA.out]
          rfl
        case measure => simp [intOf]; omega
      · go_wp2_with fail
        go_region
        all_goals go_wp2
        go_roundw
        case rel =>
          have hput := HQ.out.put HGV.out k hqk (!q.start)
          refine ⟨k + 1, { q with saved := q.saved.set k (!q.start) }, by omega, by go_num, hput.drewN 1, ?_, (HM.out.setCell (p := ⟨gv, k, none⟩) (.inl (.inr HGV.out)) _).drew⟩
          rw [loopM_succ, ← HA.out]
          rfl
        case measure => simp [intOf]; omega
      · have d4 : wr.cell? ⟨g, 4, none⟩ = some (.int .i64 q.bn) := HQ.out.blk.cell 4
        have d5 : wr.cell? ⟨g, 5, none⟩ = some (.slice r.bA r.bL.length r.bc) := HQ.out.blk.cell 5
        have HO := Lib.hid (rof_any q.bn r.bA r.bL.length r.bc r.bL (k + 1) wr (by omega) rfl (by have := HQ.out.bm; omega) HQ.out.b.rd)
        have HX := Lib.hid (show q.bv.getD k 0 = ofI ((k + 1 : Nat) : Int) r.bL by
          have h1 := rowOf_ofI HQ.out.bf (v := k + 1) (by omega) (by omega) r.bL.length (Nat.le_refl _)
          rw [List.take_length] at h1
          rw [HQ.out.bv, ← h1, show k + 1 - 1 = k by omega])
        rw [show ((k + 1 : Nat) : Int) = (k : Int) + 1 by omega] at HO HX
        generalize ofI ((k : Int) + 1) r.bL = x at *
        go_wp2_with fail
        refine HO.out.mono ?_
        rintro e w2 ⟨rfl, hb2⟩
        have HB2 := Lib.hid hb2
        have HQ2 := Lib.hid (HQ.out.below hb2)
        have k0 : w2.cell? ⟨g, 0, none⟩ = some (.slice (some ⟨gv, 0, none⟩) m.saved.length r.vc) := by rw [← hql, ← HGV.out]; exact HQ2.out.blk.cell 0
        have ks : w2.cell? ⟨gv, k, none⟩ = some (.bool (q.saved.getD k false)) := (HROW.out.below hb2).cell (bools_at hqk)
        have kf : w2.frozen? ⟨gv, k, none⟩ = false := (HROW.out.below hb2).frozen k
        clear hb2 c0 cs fs c1 d4 d5
        by_cases hx : x = 0
        · have HV := Lib.hid (show stepM 2 q k = q by
            have hv : valM 2 q k = (q, q.saved.getD k false) := by unfold valM; rw [if_neg (by decide), if_neg (by decide), if_pos rfl, HX.out, hx]; rfl
            unfold stepM
            rw [hv]
            have : q.saved.set k (q.saved.getD k false) = q.saved := by
              apply List.ext_getElem? ; intro i
              rw [List.getElem?_set]
              split
              · rename_i e; subst e; simp [List.getD_eq_getElem?_getD, hqk]
              · rfl
            show ({ q with saved := q.saved.set k (q.saved.getD k false) } : PM) = q
            rw [this])
          have t1 : (x == 0) = true := by simpa using hx
          clear hx
          go_wp2
          go_roundw
          case rel => exact ⟨k + 1, q, by omega, by go_num, HQ2.out, by rw [loopM_succ, ← HA.out, HV.out], HM.out.then_ (Mod.none_ HB2.out _)⟩
          case measure => simp [intOf]; omega
        · have HV := Lib.hid (show stepM 2 q k = { q with saved := q.saved.set k (decide (0 < x)) } by
            have hv : valM 2 q k = (q, decide (0 < x)) := by
              have hb : (x == 0) = false := by simpa using hx
              unfold valM; rw [if_neg (by decide), if_neg (by decide), if_pos rfl, HX.out, hb]; simp only [Bool.false_and, Bool.or_false]
            unfold stepM
            rw [hv])
          have t1 : (x == 0) = false := by simpa using hx
          clear hx
          go_wp2
          go_roundw
          case rel => exact ⟨k + 1, _, by omega, by go_num, HQ2.out.put HGV.out k hqk (decide (0 < x)), by rw [loopM_succ, ← HA.out, HV.out], (HM.out.then_ (Mod.none_ HB2.out _)).setCell (p := ⟨gv, k, none⟩) (.inl (.inr HGV.out)) _⟩
          case measure => simp [intOf]; omega
      · have HO := Lib.hid (rdraw_ok HQ.out)
        have HV0 := Lib.hid (show valM 3 q k = (drawM q, q.saved.getD k false != decide (nextN q.state.toNat % 8 = 0)) from rfl)
        generalize nextN q.state.toNat = x at *
        go_wp2_with fail
        refine HO.out.mono ?_
        rintro e w2 ⟨rfl, hq2, hm2⟩
        have HQ2 := Lib.hid hq2
        have HM2 := Lib.hid hm2
        have hrow2 : Row w2 gv 4 (q.saved.map Value.bool) r.vc := HROW.out.mod hm2 (fun e => HQ.out.ne_val HGV.out e)
        have HROW2 := Lib.hid hrow2
        have k0 : w2.cell? ⟨g, 0, none⟩ = some (.slice (some ⟨gv, 0, none⟩) m.saved.length r.vc) := by rw [← hql, ← HGV.out]; exact hq2.blk.cell 0
        have ks : w2.cell? ⟨gv, k, none⟩ = some (.bool (q.saved.getD k false)) := hrow2.cell (bools_at hqk)
        have kf : w2.frozen? ⟨gv, k, none⟩ = false := hrow2.frozen k
        clear hq2 hm2 hrow2 c0 cs fs c1
        have ht0 : (x : Int).tmod 8 = ((x % 8 : Nat) : Int) := by rw [Int.tmod_eq_emod_of_nonneg (by omega)]; omega
        have HTT := Lib.hid ht0
        clear ht0
        by_cases hx : x % 8 = 0
        · have HV := Lib.hid (show stepM 3 q k = { drawM q with saved := q.saved.set k (!(q.saved.getD k false)) } by
            unfold stepM
            rw [HV0.out, decide_eq_true hx]
            cases q.saved.getD k false <;> rfl)
          have t0 : (x : Int).tmod 8 = 0 := by rw [HTT.out, hx]; rfl
          clear hx
          have hput := Lib.hid (HQ2.out.put HGV.out k hqk (!(q.saved.getD k false)))
          generalize q.saved.getD k false = sv at *
          go_wp2_with fail
          go_region
          all_goals go_wp2
          go_roundw
          case rel => exact ⟨k + 1, _, by omega, by go_num, hput.out.drewN 1, by rw [loopM_succ, ← HA.out, HV.out]; rfl, ((HM.out.then_ (HM2.out.mono (fun i _ e => .inl e))).setCell (p := ⟨gv, k, none⟩) (.inl (.inr HGV.out)) _).drew⟩
          case measure => simp [intOf]; omega
        · have HV := Lib.hid (show stepM 3 q k = drawM q by
            unfold stepM
            rw [HV0.out, decide_eq_false hx, Bool.bne_false]
            show ({ drawM q with saved := q.saved.set k (q.saved.getD k false) } : PM) = drawM q
            rw [set_same q.saved k hqk]
            rfl)
          have t0 : ((x : Int).tmod 8 == 0) = false := by rw [HTT.out]; simpa using (by omega : ((x % 8 : Nat) : Int) ≠ 0)
          have t1 : ((x : Int) % 8 == 0) = false := by simpa using (by omega : (x : Int) % 8 ≠ 0)
          have t2 : (((x % 8 : Nat) : Int) == 0) = false := by simpa using (by omega : ((x % 8 : Nat) : Int) ≠ 0)
          clear hx
          go_wp2
          go_roundw
          case rel => exact ⟨k + 1, _, by omega, by go_num, HQ2.out, by rw [loopM_succ, ← HA.out, HV.out], HM.out.then_ (HM2.out.mono (fun i _ e => .inl e))⟩
          case measure => simp [intOf]; omega
      · have HO := Lib.hid (rdraw_ok (HQ.out.drewN 1))
        have HV := Lib.hid (show stepM 4 q k = { drawM q with saved := q.saved.set k (decide (nextN q.state.toNat % 2 = 1)) } from rfl)
        have KEEP := Lib.hid (show ∀ w2 : World, Rf w2 B g (drawM q) r → Mem.Mod (fun i => i = g) wr.drew w2 → w2.cell? ⟨g, 0, none⟩ = some (.slice (some ⟨gv, 0, none⟩) m.saved.length r.vc) ∧ (∀ b : Bool, (w2.setCell ⟨gv, k, none⟩ (.bool b)).cell? ⟨g, 0, none⟩ = some (.slice (some ⟨gv, 0, none⟩) m.saved.length r.vc)) ∧ w2.cell? ⟨gv, k, none⟩ = some (.bool (q.saved.getD k false)) ∧ w2.frozen? ⟨gv, k, none⟩ = false from fun w2 h2 hm2 => by
          have hr : Row w2 gv 4 (q.saved.map Value.bool) r.vc := Row.mod (HROW.out.drewN 1) hm2 (fun e => HQ.out.ne_val HGV.out e)
          refine ⟨by rw [← hql, ← HGV.out]; exact h2.blk.cell 0, fun b => ?_, hr.cell (bools_at hqk), hr.frozen k⟩
          rw [(Blk.far h2.blk (show g ≠ gv from fun e => HQ.out.ne_val HGV.out e.symm) _).cell 0, ← hql, ← HGV.out]
          rfl)
        generalize nextN q.state.toNat = x at *
        have ht0 : (x : Int).tmod 2 = ((x % 2 : Nat) : Int) := by rw [Int.tmod_eq_emod_of_nonneg (by omega)]; omega
        have HTT := Lib.hid ht0
        clear ht0 cs fs c1
        go_wp2_with fail
        go_region_held3 (fun w' => w'.cell? ⟨g, 0, none⟩ = some (.slice (some ⟨gv, 0, none⟩) m.saved.length r.vc)) (first | exact c0 | exact k1 | exact k2 _)
          ((go_at_call 39
            refine HO.out.mono ?_
            rintro e w2 ⟨rfl, hq2, hm2⟩
            obtain ⟨k1, k2, k3, k4⟩ := KEEP.out w2 hq2 hm2
            have HQ2 := Lib.hid hq2
            have HM2 := Lib.hid hm2
            clear hq2 hm2))
        go_wp2
        go_roundw
        case rel =>
          have e : ((x : Int) % 2 == 1) = decide (x % 2 = 1) := by rw [Bool.eq_iff_iff]; simp only [beq_iff_eq, decide_eq_true_eq]; omega
          rw [e]
          exact ⟨k + 1, _, by omega, by go_num, HQ2.out.put HGV.out k hqk (decide (x % 2 = 1)), by rw [loopM_succ, ← HA.out, HV.out]; rfl, ((HM.out.drewN 1).then_ (HM2.out.mono (fun i _ e => .inl e))).setCell (p := ⟨gv, k, none⟩) (.inl (.inr HGV.out)) _⟩
        case measure => simp [intOf]; omega
    · have hkn : k = m.saved.length := by omega
      have HT := Lib.hid (show q = loopM kk m m.saved.length by rw [HA.out, hkn])
      clear hkn
      have HTT := Lib.hid (show q.turned = m.turned by rw [HA.out]; exact loopM_turned _ _ _)
      have f := fun i => HQ.out.blk.frozen i
      have d2 : wr.cell? ⟨g, 2, none⟩ = some (.int .i64 q.tn) := HQ.out.blk.cell 2
      have d3 : wr.cell? ⟨g, 3, none⟩ = some (.slice r.tA r.tL.length r.tc) := HQ.out.blk.cell 3
      have d4 : wr.cell? ⟨g, 4, none⟩ = some (.int .i64 q.bn) := HQ.out.blk.cell 4
      have d5 : wr.cell? ⟨g, 5, none⟩ = some (.slice r.bA r.bL.length r.bc) := HQ.out.blk.cell 5
      have d7' : wr.cell? ⟨g, 7, none⟩ = some (.int .i64 m.turned) := by rw [← HTT.out]; exact HQ.out.blk.cell 7
      have f2 := f 2
      have f3 := f 3
      have f4 := f 4
      have f5 := f 5
      have f7 := f 7
      have htu := HP.out.tu0
      clear f
      rcases HK.out with rfl | rfl | rfl | rfl | rfl
      · go_wp2
        go_ret
        have hm3 : Mem.Mod (fun i => i = g) wr (((wr.setCell ⟨g, 2, none⟩ (.int .i64 0)).setCell ⟨g, 3, none⟩ (.slice none 0 0)).setCell ⟨g, 7, none⟩ (.int .i64 (m.turned + 1))) := Mod.setCell (Mod.setCell (Mod.setCell (Mod.refl (fun i => i = g) wr) (p := ⟨g, 2, none⟩) (.inl rfl) _) (p := ⟨g, 3, none⟩) (.inl rfl) _) (p := ⟨g, 7, none⟩) (.inl rfl) _
        refine ⟨by rw [HKK.out]; rfl, { r with tA := none, tc := 0, tL := [] }, ?_, rfl, rfl, ⟨fun i e => (by cases e), fun i e => .inl e⟩, HM.out.then_ (hm3.mono (fun i _ e => .inl e))⟩
        have hE : turnM m = endM (kindN m.turned) (loopM (kindN m.turned) m m.saved.length) (m.turned + 1) := rfl
        rw [hE, HKK.out, ← HT.out]
        exact HQ.out.clear1 hm3 (m.turned + 1) (by omega) (by
          have := Blk.set_ (Blk.set_ (Blk.set_ (HQ.out.blk) 2 (.int .i64 0)) 3 (.slice none 0 0)) 7 (.int .i64 (m.turned + 1))
          simpa [RfC] using this)
      · go_wp2
        go_ret
        have hm3 : Mem.Mod (fun i => i = g) wr (((wr.setCell ⟨g, 2, none⟩ (.int .i64 0)).setCell ⟨g, 3, none⟩ (.slice none 0 0)).setCell ⟨g, 7, none⟩ (.int .i64 (m.turned + 1))) := Mod.setCell (Mod.setCell (Mod.setCell (Mod.refl (fun i => i = g) wr) (p := ⟨g, 2, none⟩) (.inl rfl) _) (p := ⟨g, 3, none⟩) (.inl rfl) _) (p := ⟨g, 7, none⟩) (.inl rfl) _
        refine ⟨by rw [HKK.out]; rfl, { r with tA := none, tc := 0, tL := [] }, ?_, rfl, rfl, ⟨fun i e => (by cases e), fun i e => .inl e⟩, HM.out.then_ (hm3.mono (fun i _ e => .inl e))⟩
        have hE : turnM m = endM (kindN m.turned) (loopM (kindN m.turned) m m.saved.length) (m.turned + 1) := rfl
        rw [hE, HKK.out, ← HT.out]
        exact HQ.out.clear1 hm3 (m.turned + 1) (by omega) (by
          have := Blk.set_ (Blk.set_ (Blk.set_ (HQ.out.blk) 2 (.int .i64 0)) 3 (.slice none 0 0)) 7 (.int .i64 (m.turned + 1))
          simpa [RfC] using this)
      · go_wp2
        go_ret
        have hm3 : Mem.Mod (fun i => i = g) wr (((((wr.setCell ⟨g, 4, none⟩ (.int .i64 0)).setCell ⟨g, 5, none⟩ (.slice none 0 0)).setCell ⟨g, 2, none⟩ (.int .i64 0)).setCell ⟨g, 3, none⟩ (.slice none 0 0)).setCell ⟨g, 7, none⟩ (.int .i64 (m.turned + 1))) := Mod.setCell (Mod.setCell (Mod.setCell (Mod.setCell (Mod.setCell (Mod.refl (fun i => i = g) wr) (p := ⟨g, 4, none⟩) (.inl rfl) _) (p := ⟨g, 5, none⟩) (.inl rfl) _) (p := ⟨g, 2, none⟩) (.inl rfl) _) (p := ⟨g, 3, none⟩) (.inl rfl) _) (p := ⟨g, 7, none⟩) (.inl rfl) _
        refine ⟨by rw [HKK.out]; rfl, { r with tA := none, tc := 0, tL := [], bA := none, bc := 0, bL := [] }, ?_, rfl, rfl, ⟨fun i e => (by cases e), fun i e => (by cases e)⟩, HM.out.then_ (hm3.mono (fun i _ e => .inl e))⟩
        have hE : turnM m = endM (kindN m.turned) (loopM (kindN m.turned) m m.saved.length) (m.turned + 1) := rfl
        rw [hE, HKK.out, ← HT.out]
        exact HQ.out.clear2 hm3 (m.turned + 1) (by omega) (by
          have := Blk.set_ (Blk.set_ (Blk.set_ (Blk.set_ (Blk.set_ (HQ.out.blk) 4 (.int .i64 0)) 5 (.slice none 0 0)) 2 (.int .i64 0)) 3 (.slice none 0 0)) 7 (.int .i64 (m.turned + 1))
          simpa [RfC] using this)
      · go_wp2
        go_ret
        have hm3 : Mem.Mod (fun i => i = g) wr (((wr.setCell ⟨g, 2, none⟩ (.int .i64 0)).setCell ⟨g, 3, none⟩ (.slice none 0 0)).setCell ⟨g, 7, none⟩ (.int .i64 (m.turned + 1))) := Mod.setCell (Mod.setCell (Mod.setCell (Mod.refl (fun i => i = g) wr) (p := ⟨g, 2, none⟩) (.inl rfl) _) (p := ⟨g, 3, none⟩) (.inl rfl) _) (p := ⟨g, 7, none⟩) (.inl rfl) _
        refine ⟨by rw [HKK.out]; rfl, { r with tA := none, tc := 0, tL := [] }, ?_, rfl, rfl, ⟨fun i e => (by cases e), fun i e => .inl e⟩, HM.out.then_ (hm3.mono (fun i _ e => .inl e))⟩
        have hE : turnM m = endM (kindN m.turned) (loopM (kindN m.turned) m m.saved.length) (m.turned + 1) := rfl
        rw [hE, HKK.out, ← HT.out]
        exact HQ.out.clear1 hm3 (m.turned + 1) (by omega) (by
          have := Blk.set_ (Blk.set_ (Blk.set_ (HQ.out.blk) 2 (.int .i64 0)) 3 (.slice none 0 0)) 7 (.int .i64 (m.turned + 1))
          simpa [RfC] using this)
      · go_wp2
        go_ret
        have hm3 : Mem.Mod (fun i => i = g) wr (((wr.setCell ⟨g, 2, none⟩ (.int .i64 0)).setCell ⟨g, 3, none⟩ (.slice none 0 0)).setCell ⟨g, 7, none⟩ (.int .i64 (m.turned + 1))) := Mod.setCell (Mod.setCell (Mod.setCell (Mod.refl (fun i => i = g) wr) (p := ⟨g, 2, none⟩) (.inl rfl) _) (p := ⟨g, 3, none⟩) (.inl rfl) _) (p := ⟨g, 7, none⟩) (.inl rfl) _
        refine ⟨by rw [HKK.out]; rfl, { r with tA := none, tc := 0, tL := [] }, ?_, rfl, rfl, ⟨fun i e => (by cases e), fun i e => .inl e⟩, HM.out.then_ (hm3.mono (fun i _ e => .inl e))⟩
        have hE : turnM m = endM (kindN m.turned) (loopM (kindN m.turned) m m.saved.length) (m.turned + 1) := rfl
        rw [hE, HKK.out, ← HT.out]
        exact HQ.out.clear1 hm3 (m.turned + 1) (by omega) (by
          have := Blk.set_ (Blk.set_ (Blk.set_ (HQ.out.blk) 2 (.int .i64 0)) 3 (.slice none 0 0)) 7 (.int .i64 (m.turned + 1))
          simpa [RfC] using this)
end Go.Proofs.Ytcmicmghnmklnaa.Ph
