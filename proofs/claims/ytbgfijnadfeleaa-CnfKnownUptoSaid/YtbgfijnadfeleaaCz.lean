/- The document's Resolve: what it answers, at any clauses and number. Conditions: the memory, at most 400000 literals in each. -/
import Derived.Test.YtbgfijnadfeleaaCx
import Derived.Test.YtbgfijnadfeleaaCy
namespace Go.Proofs.Ytbgfijnadfeleaa.Cx
open Go.RowKit Go.Proofs.Ytbgfijnadfeleaa.Mem Go.Proofs.Ytbgfijnadfeleaa.Sl Go.Proofs.Ytbgfijnadfeleaa.Cl Go.Proofs.Ytbgfijnadfeleaa.App Go.Proofs.Ytbgfijnadfeleaa.Cm Go.Shelf
open Go.Proofs.Ytbgfijnadfeleaa.Cp (ltL normL bothL InR)
open Go.Proofs.Ytbgfijnadfeleaa.Ch (hasB has_any)
open Go.Proofs.Ytbgfijnadfeleaa.Cw (noL noL_len)
open Go.Proofs.Ytbgfijnadfeleaa.Cy (rNormal_any RdB.at_ one_rd)
open Go.Proofs.Ytbgfijnadfeleaa.Ca (wpApp)
open Go.Proofs.Ytbgfijnadfeleaa.FnL (Pred enc_at below_then)
set_option linter.unusedVariables false

theorem noL_snoc {l : List Int} {k : Nat} (h : k < l.length) (x : Int) : noL (l.take (k + 1)) x = noL (l.take k) x ++ (if l[k]'h = x then [] else [l[k]'h]) := by
  unfold noL
  rw [List.take_succ_eq_append_getElem h, List.filter_append]
  congr 1
  by_cases e : l[k]'h = x <;> simp [e]
theorem noL_take_len (l : List Int) (k : Nat) (x : Int) : (noL (l.take k) x).length ≤ k := by
  have := noL_len (l.take k) x
  have h2 : (l.take k).length ≤ k := by simp; omega
  omega
theorem rResolve_any {B : Nat} {w : World} (x y : CV) (v : Int) (hx : ClOk B w x) (hy : ClOk B w y) (hB : B ≤ w.heap.size) (hxn : x.n ≤ 400000) (hyn : y.n ≤ 400000) :
    Calls Try.prog 18 #[x.v, y.v, .int .i64 v] w fun e w' => (∃ A c, e = .returned (.tuple #[.slice A (resN x.l y.l v).length c, .bool (resB x.l y.l v), .int .i64 (resE x.l y.l v)]) ∧ Fro w' w.heap.size A (resN x.l y.l v).length (LI (resN x.l y.l v))) ∧ Below w.heap.size w w' := by
  obtain ⟨a1, n1, c1, l1⟩ := x
  obtain ⟨a2, n2, c2, l2⟩ := y
  have HX := Lib.hid hx
  have HY := Lib.hid hy
  have HS := Lib.hid hB
  have HC1 := Lib.hid (has_any a1 n1 c1 l1 v hx.ln hx.mx (hx.rd.rd hB))
  have HC2 := Lib.hid (has_any a2 n2 c2 l2 (-v) hy.ln hy.mx (hy.rd.rd hB))
  have HE := Lib.hid (show resOk l1 l2 v = (decide (1 ≤ v) && (decide (v ≤ 2147483647) && (hasB l1 v && hasB l2 (-v)))) from rfl)
  have hxn : n1 ≤ 400000 := hxn
  have hyn : n2 ≤ 400000 := hyn
  show Calls _ _ #[.slice a1 n1 c1, .slice a2 n2 c2, .int .i64 v] _ _
  dsimp only
  have HFN := Lib.hid (show resOk l1 l2 v = false → ∀ W : World, Fro W w.heap.size none (resN l1 l2 v).length (LI (resN l1 l2 v)) from fun h W => by rw [(res_no h).1]; exact ⟨rfl, .inl ⟨rfl, rfl⟩⟩)
  clear hx hy hB
  by_cases p1 : v < 1
  · have HN := Lib.hid (show resOk l1 l2 v = false by rw [HE.out, decide_eq_false (show ¬ 1 ≤ v by omega)]; rfl)
    have HNO := Lib.hid (res_no HN.out)
    go_enter Try.func18, Try.ntmps18
    go_wp2
    go_ret3
    exact ⟨⟨none, ⟨0, by rw [HNO.out.1, HNO.out.2.1, HNO.out.2.2]; rfl⟩, HFN.out HN.out _⟩, Below.refl _ _⟩
  · by_cases p2 : 2147483647 < v
    · have HN := Lib.hid (show resOk l1 l2 v = false by rw [HE.out, decide_eq_false (show ¬ v ≤ 2147483647 by omega), Bool.false_and, Bool.and_false])
      have HNO := Lib.hid (res_no HN.out)
      go_enter Try.func18, Try.ntmps18
      go_wp2
      go_ret3
      exact ⟨⟨none, ⟨0, by rw [HNO.out.1, HNO.out.2.1, HNO.out.2.2]; rfl⟩, HFN.out HN.out _⟩, Below.refl _ _⟩
    · have e1 : IntKind.i32.wrap v = v := IntWalk.i32_in _ (by omega)
      have e2 : IntKind.i32.wrap (-v) = -v := IntWalk.i32_in _ (by omega)
      rw [decide_eq_true (show 1 ≤ v by omega), decide_eq_true (show v ≤ 2147483647 by omega), Bool.true_and, Bool.true_and] at HE
      cases h1 : hasB l1 v with
      | false =>
        have HN := Lib.hid (show resOk l1 l2 v = false by rw [HE.out, h1]; rfl)
        have HNO := Lib.hid (res_no HN.out)
        rw [h1] at HC1
        clear h1
        go_enter Try.func18, Try.ntmps18
        go_wp2_with fail
        refine HC1.out.mono ?_
        rintro e w1 ⟨rfl, rfl⟩
        go_wp2
        go_ret3
        exact ⟨⟨none, 0, by rw [HNO.out.1, HNO.out.2.1, HNO.out.2.2]; rfl, HFN.out HN.out _⟩, Below.refl _ _⟩
      | true =>
        rw [h1, Bool.true_and] at HE
        rw [h1] at HC1
        clear h1
        cases h2 : hasB l2 (-v) with
        | false =>
          have HN := Lib.hid (show resOk l1 l2 v = false by rw [HE.out, h2])
          have HNO := Lib.hid (res_no HN.out)
          rw [h2] at HC2
          clear h2
          go_enter Try.func18, Try.ntmps18
          go_wp2_with fail
          refine HC1.out.mono ?_
          rintro e w1 ⟨rfl, rfl⟩
          go_wp2_with fail
          refine HC2.out.mono ?_
          rintro e w1 ⟨rfl, rfl⟩
          go_wp2
          go_ret3
          exact ⟨⟨none, 0, by rw [HNO.out.1, HNO.out.2.1, HNO.out.2.2]; rfl, HFN.out HN.out _⟩, Below.refl _ _⟩
        | true =>
          have HN := Lib.hid (show resOk l1 l2 v = true by rw [HE.out, h2])
          have HNO := Lib.hid (res_yes HN.out)
          rw [h2] at HC2
          clear h2 HFN HE
          have HLR := Lib.hid (show noL l1 v ++ noL l2 (-v) = resL l1 l2 v from rfl)
          have HIN := Lib.hid (resL_in (show InR l1 from HX.out.lb) (show InR l2 from HY.out.lb) v)
          have HN1 := Lib.hid (show n1 = l1.length from HX.out.ln)
          have HN2 := Lib.hid (show n2 = l2.length from HY.out.ln)
          go_enter Try.func18, Try.ntmps18
          go_wp2_with fail
          refine HC1.out.mono ?_
          rintro e w1 ⟨rfl, rfl⟩
          go_wp2_with fail
          refine HC2.out.mono ?_
          rintro e w1 ⟨rfl, rfl⟩
          clear HC1 HC2
          go_wp2_with fail
          go_loopw [9, 10] (fun o i wr => ∃ (k : Nat) (A : Option Addr) (c : Nat), k ≤ n1 ∧ i = .int .i64 k ∧ o = .slice A (noL (l1.take k) v).length c ∧ Own wr w.heap.size 27 A (noL (l1.take k) v).length c (LI (noL (l1.take k) v)) ∧ Below w.heap.size w wr) (fun _ i _ => n1 - (intOf i).toNat)
          case atStart => exact ⟨0, none, 0, Nat.zero_le _, rfl, rfl, Own.nil _ _ _, Below.refl _ _⟩
          case round =>
            obtain ⟨k, A, c, hk, rfl, rfl, hO, hb⟩ := hrel
            have HO := Lib.hid hO
            have HB := Lib.hid hb
            clear hO hb
            by_cases hlt : k < n1
            · have hkl : k < l1.length := by rw [← HN1.out]; exact hlt
              obtain ⟨b, off, ha, hbB, hc⟩ := RdB.at_ (HX.out.below (HB.out.mono HS.out)).rd (enc_at (enc := Value.int .i32) hkl)
              dsimp only at ha
              subst ha
              have HSN := Lib.hid (noL_snoc hkl (v))
              have hLk : (noL (l1.take k) v).length ≤ 800000 := by
                have h1 := noL_take_len l1 k (v)
                first | omega | (rw [List.length_append]; omega)
              generalize l1[k]'hkl = z at *
              have hbW : b < w.heap.size := Nat.lt_of_lt_of_le hbB HS.out
              have HBW := Lib.hid hbW
              clear hkl hbB hbW
              by_cases hz : z = v
              · have HT := Lib.hid (show noL (l1.take (k + 1)) v = noL (l1.take k) v by rw [HSN.out, if_pos hz]; simp)
                have hz2 : decide (z = v) = true := decide_eq_true hz
                subst hz
                go_wp2
                go_roundw
                case rel => exact ⟨k + 1, A, c, by omega, by go_num, by rw [HT.out], by rw [HT.out]; exact HO.out, HB.out⟩
                case measure => simp [intOf]; omega
              · have HT := Lib.hid (show noL (l1.take (k + 1)) v = (noL (l1.take k) v) ++ [z] by rw [HSN.out, if_neg hz]; try rw [List.append_assoc])
                obtain ⟨q, hq⟩ : ∃ q, (noL (l1.take k) v).length = q := ⟨_, rfl⟩
                obtain ⟨ys, hys⟩ : ∃ ys, noL (l1.take k) v = ys := ⟨_, rfl⟩
                rw [hys] at hq HT HO hLk
                rw [hq] at HO hLk
                rw [hys, hq]
                have HQ := Lib.hid hq
                clear hq hys
                have HRF := Lib.hid (show ∀ W, W = wr.alloc (.cells #[.int .i32 z] 27) → True from fun _ _ => trivial)
                go_wp2_with (at_builtin; go_loud (refine wpApp rfl _ _ rfl w.heap.size A q c ys rfl (HO.out.alloc _) (some ⟨wr.heap.size, 0, none⟩) 1 1 [z] rfl rfl (one_rd wr z _) (fun h => by cases h) (by omega) (by simp; have := HB.out.size; omega) (q + 1) rfl ?_; intro A1 d1 w1 hO1 hb1 hg1; have HO1 := Lib.hid hO1; have HBX := Lib.hid (show Below w.heap.size w w1 from (HB.out.alloc HB.out.size _).trans hb1); clear hO1 hb1 hg1))
                go_roundw
                case rel => exact ⟨k + 1, A1, d1, by omega, by go_num, by rw [HT.out, List.length_append, HQ.out]; rfl, by rw [HT.out, List.length_append, HQ.out]; exact HO1.out, HBX.out⟩
                case measure => simp [intOf]; omega
            · have HKN := Lib.hid (show k = l1.length by rw [← HN1.out]; omega)
              have HT := Lib.hid (show noL (l1.take k) v = noL l1 v by rw [HKN.out, List.take_length])
              rw [HT.out] at HO
              rw [HT.out]
              have hL1 : (noL l1 v).length ≤ n1 := Nat.le_trans (noL_len l1 v) (by rw [HN1.out]; exact Nat.le_refl _)
              rename World => wb
              go_wp2_with fail
              clear HT HKN hlt hk
              go_loopw [9, 11] (fun o i wr => ∃ (k : Nat) (A : Option Addr) (c : Nat), k ≤ n2 ∧ i = .int .i64 k ∧ o = .slice A (noL l1 v ++ noL (l2.take k) (-v)).length c ∧ Own wr w.heap.size 27 A (noL l1 v ++ noL (l2.take k) (-v)).length c (LI (noL l1 v ++ noL (l2.take k) (-v))) ∧ Below w.heap.size w wr) (fun _ i _ => n2 - (intOf i).toNat)
              case atStart => exact ⟨0, A, c, Nat.zero_le _, rfl, by simp [noL], by simpa [noL] using HO.out, HB.out⟩
              case round =>
                clear HO HB
                obtain ⟨k, A, c, hk, rfl, rfl, hO, hb⟩ := hrel
                have HO := Lib.hid hO
                have HB := Lib.hid hb
                clear hO hb
                by_cases hlt : k < n2
                · have hkl : k < l2.length := by rw [← HN2.out]; exact hlt
                  obtain ⟨b, off, ha, hbB, hc⟩ := RdB.at_ (HY.out.below (HB.out.mono HS.out)).rd (enc_at (enc := Value.int .i32) hkl)
                  dsimp only at ha
                  subst ha
                  have HSN := Lib.hid (noL_snoc hkl (-v))
                  have hLk : (noL l1 v ++ noL (l2.take k) (-v)).length ≤ 800000 := by
                    have h1 := noL_take_len l2 k (-v)
                    first | omega | (rw [List.length_append]; omega)
                  generalize l2[k]'hkl = z at *
                  have hbW : b < w.heap.size := Nat.lt_of_lt_of_le hbB HS.out
                  have HBW := Lib.hid hbW
                  clear hkl hbB hbW
                  by_cases hz : z = -v
                  · have HT := Lib.hid (show noL l1 v ++ noL (l2.take (k + 1)) (-v) = noL l1 v ++ noL (l2.take k) (-v) by rw [HSN.out, if_pos hz]; simp)
                    have hz2 : decide (z = -v) = true := decide_eq_true hz
                    subst hz
                    go_wp2
                    go_roundw
                    case rel => exact ⟨k + 1, A, c, by omega, by go_num, by rw [HT.out], by rw [HT.out]; exact HO.out, HB.out⟩
                    case measure => simp [intOf]; omega
                  · have HT := Lib.hid (show noL l1 v ++ noL (l2.take (k + 1)) (-v) = (noL l1 v ++ noL (l2.take k) (-v)) ++ [z] by rw [HSN.out, if_neg hz]; try rw [List.append_assoc])
                    obtain ⟨q, hq⟩ : ∃ q, (noL l1 v ++ noL (l2.take k) (-v)).length = q := ⟨_, rfl⟩
                    obtain ⟨ys, hys⟩ : ∃ ys, noL l1 v ++ noL (l2.take k) (-v) = ys := ⟨_, rfl⟩
                    rw [hys] at hq HT HO hLk
                    rw [hq] at HO hLk
                    rw [hys, hq]
                    have HQ := Lib.hid hq
                    clear hq hys
                    have HRF := Lib.hid (show ∀ W, W = wr.alloc (.cells #[.int .i32 z] 27) → True from fun _ _ => trivial)
                    go_wp2_with (at_builtin; go_loud (refine wpApp rfl _ _ rfl w.heap.size A q c ys rfl (HO.out.alloc _) (some ⟨wr.heap.size, 0, none⟩) 1 1 [z] rfl rfl (one_rd wr z _) (fun h => by cases h) (by omega) (by simp; have := HB.out.size; omega) (q + 1) rfl ?_; intro A1 d1 w1 hO1 hb1 hg1; have HO1 := Lib.hid hO1; have HBX := Lib.hid (show Below w.heap.size w w1 from (HB.out.alloc HB.out.size _).trans hb1); clear hO1 hb1 hg1))
                    go_roundw
                    case rel => exact ⟨k + 1, A1, d1, by omega, by go_num, by rw [HT.out, List.length_append, HQ.out]; rfl, by rw [HT.out, List.length_append, HQ.out]; exact HO1.out, HBX.out⟩
                    case measure => simp [intOf]; omega
                · have HKN := Lib.hid (show k = l2.length by rw [← HN2.out]; omega)
                  have HT := Lib.hid (show noL l1 v ++ noL (l2.take k) (-v) = resL l1 l2 v by rw [HKN.out, List.take_length]; rfl)
                  rw [HT.out] at HO
                  rw [HT.out]
                  have HLE := Lib.hid (show (resL l1 l2 v).length ≤ 1000000 by
                    unfold resL; rw [List.length_append]
                    have := noL_len l2 (-v); have := HN2.out; omega)
                  have HNM := Lib.hid (rNormal_any (w := wr) (B := wr.heap.size) ⟨A, (resL l1 l2 v).length, c, resL l1 l2 v⟩ (cl_own HO.out HIN.out HLE.out) (Nat.le_refl _) HLE.out)
                  go_wp2_with fail
                  refine HNM.out.mono ?_
                  rintro e w4 ⟨⟨A4, c4, rfl, hF⟩, hb4⟩
                  have HF := Lib.hid (Fro.of hF)
                  have HB4 := Lib.hid (below_then HB.out hb4 HB.out.size)
                  clear hF hb4
                  go_wp2
                  go_ret3
                  exact ⟨⟨A4, c4, by rw [HNO.out.1, HNO.out.2.1, HNO.out.2.2]; rfl, by rw [HNO.out.1]; exact HF.out.low HB.out.size⟩, HB4.out⟩
end Go.Proofs.Ytbgfijnadfeleaa.Cx
