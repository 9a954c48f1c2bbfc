/- The walk of the document's Extend. -/
import Derived.Test.YtfpohiflpemkjaaEx
namespace Go.Proofs.Ytfpohiflpemkjaa.Ex
open Go.RowKit Go.Proofs.Ytfpohiflpemkjaa.Mem Go.Proofs.Ytfpohiflpemkjaa.Sl Go.Proofs.Ytfpohiflpemkjaa.Cl Go.Proofs.Ytfpohiflpemkjaa.App Go.Shelf
open Go.Proofs.Ytfpohiflpemkjaa.FnL (Pred enc_at below_then)
set_option linter.unusedVariables false

/-- A model of the call's own. -/
abbrev OwnM (w : World) (base : Nat) (A : Option Addr) (n c : Nat) (m : List Bool) : Prop := Own w base 4 A n c (m.map Value.bool)
theorem OwnM.md {w : World} {base : Nat} {A : Option Addr} {n c : Nat} {m : List Bool} (h : OwnM w base A n c m) (hm : n ≤ 9223372036854775807) : MdOk w.heap.size w A n m :=
  ⟨by simpa using h.1, hm, RdB.of h.rd⟩
theorem right_of {N : Int} {l : List Int} (h : rightB N l = true) {x : Int} (hx : x ∈ l) : 1 ≤ varI x ∧ varI x ≤ N := by
  unfold rightB at h
  rw [List.all_eq_true] at h
  have := h x hx
  simp only [Bool.not_eq_true', Bool.or_eq_false_iff, beq_eq_false_iff_ne, ne_eq, decide_eq_false_iff_not] at this
  obtain ⟨h1, h2⟩ := this
  unfold varI at *
  split <;> omega

set_option maxRecDepth 100000 in
set_option maxHeartbeats 4000000 in
theorem rextend_any {B : Nat} {w : World} (hB : B ≤ w.heap.size) (a : Option Addr) (n c : Nat) (m : List Bool) (hm : MdOk B w a n m) (hnil : a = none → c = 0) (hmn : n ≤ 1000000) (sa : Option Addr) (sn sc : Nat) (st : List WV) (hst : WtOk B w sa sn st) :
    Calls Try.prog 12 #[.slice a n c, .slice sa sn sc] w fun e w' => Below w.heap.size w w' ∧
      ((okB n st = false ∧ e = .returned (.tuple #[.slice none 0 0, .int .i64 4])) ∨ (okB n st = true ∧ ∃ A c', e = .returned (.tuple #[.slice A n c', .int .i64 0]) ∧ OwnM w' w.heap.size A n c' (extendB m st))) := by
  have HM := Lib.hid hm
  have HX := Lib.hid hst
  have HL := Lib.hid hst.ln
  have HS := Lib.hid hB
  have HNIL := Lib.hid hnil
  have hmx := hst.mx
  clear hm hst hB hnil
  go_enter Try.func12, Try.ntmps12
  go_wp2_with fail
  go_loopw [6] (fun i wr => ∃ k : Nat, k ≤ sn ∧ i = .int .i64 k ∧ (st.take k).all (okW n) = true ∧ w = wr) (fun i _ => sn - (intOf i).toNat)
  case atStart => exact ⟨0, Nat.zero_le _, rfl, rfl, rfl⟩
  case round =>
    obtain ⟨k, hk, rfl, hf, rfl⟩ := hrel
    have HF := Lib.hid hf
    clear hf
    by_cases hlt : k < sn
    · have hkl : k < st.length := by rw [← HL.out]; exact hlt
      obtain ⟨b, off, ha, hbl, hc1, hc2⟩ := HX.out.at_ hkl
      subst ha
      have HT := Lib.hid (show (st.take (k + 1)).all (okW n) = okW n (st[k]'hkl) by rw [List.take_succ_eq_append_getElem hkl, List.all_append, HF.out]; simp)
      have HM2 := Lib.hid (show st[k]'hkl ∈ st from List.getElem_mem hkl)
      have HC1 := Lib.hid (rright_any HS.out (st[k]'hkl).l (HX.out.all _ HM2.out).1 n)
      have HC2 := Lib.hid (rright_any HS.out (st[k]'hkl).c (HX.out.all _ HM2.out).2 n)
      have HA := Lib.hid (show okW n (st[k]'hkl) = false → okB n st = false from fun h => by
        unfold okB; rw [List.all_eq_false]; exact ⟨_, HM2.out, by simpa using h⟩)
      have HO := Lib.hid (show okW n (st[k]'hkl) = (rightB n (st[k]'hkl).l.l && rightB n (st[k]'hkl).c.l) from rfl)
      generalize st[k]'hkl = y at *
      generalize y.l.v = v1 at *
      generalize y.c.v = v2 at *
      clear hkl hbl
      go_wp2_with fail
      refine HC1.out.mono ?_
      rintro e w1 ⟨rfl, rfl⟩
      cases h1 : rightB n y.l.l with
      | false =>
        have HE := Lib.hid (HA.out (by rw [HO.out, h1]; rfl))
        clear h1
        go_wp2
        go_ret2
        exact ⟨Below.refl _ _, .inl ⟨HE.out, rfl⟩⟩
      | true =>
        rw [h1, Bool.true_and] at HO
        clear h1
        go_wp2_with fail
        refine HC2.out.mono ?_
        rintro e w1 ⟨rfl, rfl⟩
        cases h1 : rightB n y.c.l with
        | false =>
          have HE := Lib.hid (HA.out (by rw [HO.out, h1]))
          clear h1
          go_wp2
          go_ret2
          exact ⟨Below.refl _ _, .inl ⟨HE.out, rfl⟩⟩
        | true =>
          have HE := Lib.hid (HT.out.trans (HO.out.trans h1))
          clear h1
          go_wp2
          go_roundw
          case rel => exact ⟨k + 1, by omega, by go_num, HE.out, trivial⟩
          case measure => simp [intOf]; omega
    · have HE := Lib.hid (show okB n st = true by
        have := HF.out
        rwa [List.take_of_length_le (by rw [← HL.out]; omega)] at this)
      clear HF
      obtain ⟨i0, hi⟩ := Option.isSome_iff_exists.1 (show (Try.prog.info? 4).isSome = true by kernel_rfl)
      have hz : (Try.prog.info? 4).map (fun i => (i.zero, i.size, i.bytes)) = some (some (.bool false), 1, 1) := by kernel_rfl
      rw [hi] at hz
      injection hz with hz
      injection hz with hz0 hz
      injection hz with hz1 hz2
      have e1 : IntKind.i64.wrap ((sn : Int) - 1) = (sn : Int) - 1 := IntWalk.i64_in _ (by omega)
      have HOW := Lib.hid fun (v' : Value) (w2 : World) (hown : w2.ownsRow w.heap.size 4 1 v' (0 + n) ([] ++ m.map Value.bool)) => Own.of (by rwa [Nat.zero_add, List.nil_append] at hown)
      go_wp2_with (at_builtin; refine wpList_app rfl _ _ 23 rfl w.heap.size 4 i0 (.bool false) 1 Try.underlying23 hi hz0 hz1 hz2 rfl (.slice none 0 0) 0 [] rfl (World.ownsRow_nil _ _ _ _) a n c (m.map Value.bool) rfl (by simpa using HM.out.ln) (HM.out.rd.rd HS.out) HNIL.out (fun u hu => by obtain ⟨x, _, rfl⟩ := List.mem_map.1 hu; rfl) (by unfold maxLen; omega) (by omega) (Nat.le_refl _) ?_; intro v' w2 hown hgrow; obtain ⟨A, c', rfl, hO⟩ := HOW.out v' w2 hown; have HO := Lib.hid hO; have HB := Lib.hid (show Below w.heap.size w w2 from (Mod.grown hgrow).below (fun i _ e => by cases e) (Nat.le_refl _)); clear hown hgrow hO)
      clear hlt e1 hi hz0 hz1 hz2
      go_loopw [8] (fun i wr => ∃ k : Nat, k ≤ sn ∧ i = .int .i64 ((k : Int) - 1) ∧ OwnM wr w.heap.size A n c' (extendB m (st.drop k)) ∧ Below w.heap.size w wr) (fun i _ => (intOf i + 1).toNat)
      case atStart => exact ⟨sn, Nat.le_refl _, rfl, by rw [List.drop_of_length_le (by rw [← HL.out]; omega)]; exact HO.out, HB.out⟩
      case round =>
        clear HO HB
        obtain ⟨k, hk, rfl, hO, hB⟩ := hrel
        have HO := Lib.hid hO
        have HB := Lib.hid hB
        clear hO hB
        rcases k with _ | k
        · rw [show (((0 : Nat) : Int) - 1) = -1 from rfl]
          go_wp2
          go_ret2
          exact ⟨HB.out, .inr ⟨HE.out, A, c', rfl, HO.out⟩⟩
        · rw [show (((k + 1 : Nat) : Int) - 1) = (k : Int) by omega]
          have hkl : k < st.length := by rw [← HL.out]; omega
          have hx' := HX.out.below (HB.out.mono HS.out)
          obtain ⟨b, off, ha, hbl, hc1, hc2⟩ := hx'.at_ hkl
          subst ha
          have HM2 := Lib.hid (show st[k]'hkl ∈ st from List.getElem_mem hkl)
          have HD := Lib.hid (show extendB m (st.drop k) = stepB (extendB m (st.drop (k + 1))) (st[k]'hkl) by rw [List.drop_eq_getElem_cons hkl]; rfl)
          have HCl := Lib.hid (hx'.all _ HM2.out)
          have HOK := Lib.hid (show okW n (st[k]'hkl) = true by have := HE.out; unfold okB at this; rw [List.all_eq_true] at this; exact this _ HM2.out)
          generalize extendB m (st.drop (k + 1)) = M at *
          generalize st[k]'hkl = y at *
          have HSZ := Lib.hid (show B ≤ wr.heap.size from Nat.le_trans HS.out HB.out.size)
          have HC := Lib.hid (rValue_any (c := c') (Nat.le_refl _) (HO.out.md (by omega)) y.c (HCl.out.2.up HSZ.out))
          have HV := Lib.hid (show y.c.v = .slice y.c.A y.c.n y.c.c from rfl)
          have HB1 := Lib.hid hbl
          have HK1 := Lib.hid hc1
          clear hkl hbl hx' hc1
          generalize y.c.v = v2 at *
          go_wp2_with fail
          refine HC.out.mono ?_
          rintro e w1 ⟨rfl, hb1⟩
          have HO1 := Lib.hid (HO.out.below hb1)
          have HB2 := Lib.hid (below_then HB.out hb1 HB.out.size)
          cases hv : valB M y.c.l with
          | true =>
            have HR := Lib.hid (show extendB m (st.drop k) = M by rw [HD.out]; unfold stepB; rw [hv]; rfl)
            clear hv hb1
            have e1 : IntKind.i64.wrap ((k : Int) - 1) = (k : Int) - 1 := IntWalk.i64_in _ (by omega)
            go_wp2
            go_roundw
            case rel => exact ⟨k, by omega, rfl, by rw [HR.out]; exact HO1.out, HB2.out⟩
            case measure => simp [intOf]
          | false =>
            have HR := Lib.hid (show extendB m (st.drop k) = fixB M y.l.l by rw [HD.out]; unfold stepB; rw [hv]; rfl)
            have HCL := Lib.hid (HCl.out.1.below (hb1.mono HSZ.out))
            have HK2 := Lib.hid ((hb1.cell (p := ⟨b, off + k * 2, none⟩) (by have := HB1.out; have := HSZ.out; show b < _; omega)).trans HK1.out)
            have HSZ1 := Lib.hid (show B ≤ w1.heap.size from Nat.le_trans HSZ.out hb1.size)
            have HML := Lib.hid (show M.length = n from by have := HO.out.1; simpa using this.symm)
            have HRT := Lib.hid (show rightB n y.l.l = true by have := HOK.out; unfold okW at this; rw [Bool.and_eq_true] at this; exact this.1)
            have HLL := Lib.hid (HCL.out.ln)
            have hyn := HCL.out.mx
            have HVL := Lib.hid (show y.l.v = .slice y.l.A y.l.n y.l.c from rfl)
            rw [HVL.out] at HK2
            have HRD := Lib.hid (HCL.out.rd)
            have HLB := Lib.hid (HCL.out.lb)
            clear hv hb1 hc2 HC HK1 HVL HD HV HCl HCL HOK HM2 HO HB
            generalize y.l.A = yA at *
            generalize y.l.n = yn at *
            generalize y.l.c = yc at *
            generalize y.l.l = yl at *
            go_wp2_with fail
            go_loopw [9] (fun i wr2 => ∃ j : Nat, j ≤ yn ∧ i = .int .i64 j ∧ OwnM wr2 w.heap.size A n c' (fixB M (yl.take j)) ∧ Below w.heap.size w wr2 ∧ RdB B wr2 yA (yl.map (Value.int .i32)) ∧ wr2.cell? ⟨b, off + k * 2, none⟩ = some (.slice yA yn yc)) (fun i _ => yn - (intOf i).toNat)
            case atStart => exact ⟨0, Nat.zero_le _, rfl, HO1.out, HB2.out, HRD.out, HK2.out⟩
            case round =>
              clear HO1 HB2 HRD HK2
              obtain ⟨j, hj, rfl, hO, hB, hR, hc1⟩ := hrel
              have HO := Lib.hid hO
              have HB := Lib.hid hB
              have HRD := Lib.hid hR
              have HK := Lib.hid hc1
              clear hO hB hR
              by_cases hlt : j < yn
              · have hjl : j < yl.length := by rw [← HLL.out]; exact hlt
                obtain ⟨b2, off2, ha2, hbl2, hc2⟩ := RdV.at_ (HRD.out.rd (Nat.le_trans HS.out HB.out.size)) (enc_at (enc := Value.int .i32) hjl)
                subst ha2
                have HM3 := Lib.hid (show yl[j]'hjl ∈ yl from List.getElem_mem hjl)
                have HF := Lib.hid (show fixB M (yl.take (j + 1)) = setLit (fixB M (yl.take j)) (yl[j]'hjl) by unfold fixB; rw [List.take_succ_eq_append_getElem hjl, List.foldl_append]; rfl)
                have hv := right_of HRT.out HM3.out
                have hlb := HLB.out _ HM3.out
                have HC := Lib.hid (rVar_any (yl[j]'hjl) hlb.1 hlb.2)
                have HST := Lib.hid (show setLit (fixB M (yl.take j)) (yl[j]'hjl) = (fixB M (yl.take j)).set ((varI (yl[j]'hjl)).toNat - 1) (decide (0 < yl[j]'hjl)) from rfl)
                have HFL := Lib.hid (show (fixB M (yl.take j)).length = n by rw [fixB_length]; exact HML.out)
                generalize fixB M (yl.take j) = M2 at *
                generalize yl[j]'hjl = x at *
                generalize hvv : varI x = v at *
                clear hlb hjl hbl2 hvv
                obtain ⟨hv1, hv2⟩ := hv
                obtain ⟨g, hg, hbg, hrow⟩ := HO.out.row (by omega)
                subst hg
                have hcs : wr.cell? ⟨g, v.toNat - 1, none⟩ = some (.bool (M2.getD (v.toNat - 1) false)) := hrow.cell (bools_at (by rw [HFL.out]; omega))
                have hfz : wr.frozen? ⟨g, v.toNat - 1, none⟩ = false := hrow.frozen _
                have e1 : IntKind.i64.wrap (v - 1) = v - 1 := IntWalk.i64_in _ (by omega)
                have HNX := Lib.hid (show OwnM (wr.setCell ⟨g, v.toNat - 1, none⟩ (.bool (decide (0 < x)))) w.heap.size (some ⟨g, 0, none⟩) n c' (fixB M (yl.take (j + 1))) by
                  have := HO.out.set_ (v.toNat - 1) (by omega) (.bool (decide (0 < x)))
                  rw [HF.out, HST.out]; show Own _ _ _ _ _ _ (List.map Value.bool (M2.set _ _)); rw [List.map_set]; exact this)
                have HNB := Lib.hid (show Below w.heap.size w (wr.setCell ⟨g, v.toNat - 1, none⟩ (.bool (decide (0 < x)))) from HB.out.setCell (p := ⟨g, v.toNat - 1, none⟩) hbg _)
                have HBG := Lib.hid hbg
                clear hrow hbg
                go_wp2_with fail
                refine (HC.out _).mono ?_
                rintro e w1 ⟨rfl, rfl⟩
                go_wp2
                go_roundw
                case rel => exact ⟨j + 1, by omega, by go_num, HNX.out, HNB.out, fun hp => by
                  obtain ⟨b3, off3, e3, hx3, hc3⟩ := HRD.out hp
                  exact ⟨b3, off3, e3, hx3, fun i v' hi => (World.cell?_of_block (Below.heap_setCell _ _ _ b3 (by have := HS.out; have := HBG.out; show b3 ≠ g; omega))).trans (hc3 i v' hi)⟩, (World.cell?_of_block (Below.heap_setCell _ _ _ b (by have := HS.out; have := HBG.out; have := HB1.out; show b ≠ g; omega))).trans HK.out⟩
                case measure => simp [intOf]; omega
              · have HE := Lib.hid (show extendB m (st.drop k) = fixB M (yl.take j) by rw [HR.out, List.take_of_length_le (by rw [← HLL.out]; omega)])
                have e1 : IntKind.i64.wrap ((k : Int) - 1) = (k : Int) - 1 := IntWalk.i64_in _ (by omega)
                clear hj
                go_wp2
                go_roundw
                case rel => exact ⟨k, by omega, rfl, by rw [HE.out]; exact HO.out, HB.out⟩
                case measure => simp [intOf]
end Go.Proofs.Ytfpohiflpemkjaa.Ex
