/- The document's Normal: what it answers, at any clause. Conditions: the memory, at most a million literals. -/
import Derived.Test.YtbgfijnadfeleaaCa
import Derived.Test.YtbgfijnadfeleaaCh
namespace Go.Proofs.Ytbgfijnadfeleaa.Cy
open Go.RowKit Go.Proofs.Ytbgfijnadfeleaa.Mem Go.Proofs.Ytbgfijnadfeleaa.Sl Go.Proofs.Ytbgfijnadfeleaa.Cl Go.Proofs.Ytbgfijnadfeleaa.App Go.Proofs.Ytbgfijnadfeleaa.Cm Go.Shelf
open Go.Proofs.Ytbgfijnadfeleaa.Cp (ltL normL bothL InR putIn ins)
open Go.Proofs.Ytbgfijnadfeleaa.Ch (hasB has_any)
open Go.Proofs.Ytbgfijnadfeleaa.Ca (wpApp before_any split_at)
open Go.Proofs.Ytbgfijnadfeleaa.FnL (Pred enc_at below_then)
set_option linter.unusedVariables false

def pn (l : List Int) (x : Int) : Bool := decide (0 < x) && hasB l (-x)
def nP (l : List Int) (k : Nat) : List Int := (l.take k).foldl putIn []
def bP (l : List Int) (k : Nat) : Bool := (l.take k).any (pn l)
theorem nP_succ {l : List Int} {k : Nat} (h : k < l.length) : nP l (k + 1) = putIn (nP l k) (l[k]'h) := by
  unfold nP; rw [List.take_succ_eq_append_getElem h, List.foldl_append]; rfl
theorem bP_succ {l : List Int} {k : Nat} (h : k < l.length) : bP l (k + 1) = (bP l k || pn l (l[k]'h)) := by
  unfold bP; rw [List.take_succ_eq_append_getElem h, List.any_append]; simp
theorem nP_mem (l : List Int) (k : Nat) (y : Int) : hasB (nP l k) y = true ↔ y ∈ l.take k := by
  unfold hasB nP
  rw [List.contains_iff_mem]
  have := (Cp.fold_putIn (l.take k) [] List.Pairwise.nil).2 y
  simpa using this
theorem nP_end (l : List Int) : nP l l.length = normL l := by unfold nP normL; rw [List.take_length]
theorem bP_end (l : List Int) : bP l l.length = bothL l := by unfold bP; rw [List.take_length]; rfl
theorem nP_len (l : List Int) (k : Nat) : (nP l k).length ≤ k := by
  have := Cp.norm_len (l.take k)
  have h2 : nP l k = normL (l.take k) := rfl
  rw [h2]
  have h3 : (l.take k).length ≤ k := by simp; omega
  omega
theorem nP_in {l : List Int} (h : InR l) (k : Nat) : InR (nP l k) := Cp.norm_in (l := l.take k) fun y hy => h y (List.mem_of_mem_take hy)
theorem step_has {l : List Int} {k : Nat} (h : k < l.length) (hh : hasB (nP l k) (l[k]'h) = true) : nP l (k + 1) = nP l k ∧ bP l (k + 1) = bP l k := by
  constructor
  · rw [nP_succ h]; unfold putIn; rw [if_pos (show (nP l k).contains (l[k]'h) = true from hh)]
  · rw [bP_succ h]
    cases hp : pn l (l[k]'h) with
    | false => rw [Bool.or_false]
    | true =>
      have : bP l k = true := List.any_eq_true.2 ⟨_, (nP_mem l k _).1 hh, hp⟩
      rw [this]; rfl
theorem step_new {l : List Int} {k : Nat} (h : k < l.length) (hh : hasB (nP l k) (l[k]'h) = false) : nP l (k + 1) = ins (l[k]'h) (nP l k) := by
  rw [nP_succ h]; unfold putIn; rw [if_neg (by rw [show (nP l k).contains (l[k]'h) = false from hh]; simp)]
theorem ints_drop {l : List Int} {w : World} {g c j : Nat} {t : TypeId} (h : Row w g t (LI l) c) : RdV w (some ⟨g, j, none⟩) (LI (l.drop j)) := fun _ => by
  refine ⟨g, j, rfl, h.lt, fun i v hi => ?_⟩
  rw [LI, List.map_drop, List.getElem?_drop] at hi
  exact h.cell hi
theorem ints_take {l : List Int} {w : World} {a : Option Addr} (h : RdV w a (LI l)) (j : Nat) : RdV w a (LI (l.take j)) := by
  have := h.take j
  rwa [LI, ← List.map_take] at this
theorem one_rd (w : World) (y : Int) (t : TypeId) : RdV (w.alloc (.cells #[.int .i32 y] t)) (some ⟨w.heap.size, 0, none⟩) (LI [y]) := by
  have := (Row.new w t (LI [y])).rd
  exact this
theorem RdB.at_ {B : Nat} {w : World} {a : Option Addr} {vs : List Value} (h : RdB B w a vs) {k : Nat} {v : Value} (hk : vs[k]? = some v) : ∃ b off, a = some ⟨b, off, none⟩ ∧ b < B ∧ w.cell? ⟨b, off + k, none⟩ = some v := by
  obtain ⟨b, off, rfl, hx, hc⟩ := h (by have := (List.getElem?_eq_some_iff.1 hk).1; omega)
  exact ⟨b, off, rfl, hx, hc k v hk⟩
theorem rNormal_any {B : Nat} {w : World} (x : CV) (hx : ClOk B w x) (hB : B ≤ w.heap.size) (hn : x.n ≤ 1000000) :
    Calls Try.prog 16 #[x.v] w fun e w' => (∃ A c, e = .returned (.tuple #[.slice A (normL x.l).length c, .bool (bothL x.l)]) ∧ Own w' w.heap.size 27 A (normL x.l).length c (LI (normL x.l))) ∧ Below w.heap.size w w' := by
  obtain ⟨a0, n, c0, l⟩ := x
  have HX := Lib.hid hx
  have HS := Lib.hid hB
  have HN := Lib.hid (show n = l.length from hx.ln)
  have HIN := Lib.hid (show InR l from hx.lb)
  have hn : n ≤ 1000000 := hn
  show Calls _ _ #[.slice a0 n c0] _ _
  dsimp only
  have HE1 := Lib.hid (nP_end l)
  have HE2 := Lib.hid (bP_end l)
  have HH0 := Lib.hid (fun (W : World) (hb : Below w.heap.size w W) z => has_any (w := W) a0 n c0 l z hx.ln hx.mx ((hx.below (hb.mono hB)).rd.rd (Nat.le_trans hB hb.size)))
  clear hx hB
  generalize hd0 : normL l = d at *
  generalize hb0 : bothL l = bo at *
  clear hd0 hb0
  go_enter Try.func16, Try.ntmps16
  go_wp2_with fail
  go_loopw [4, 5, 6, 7, 8] (fun o b i z1 z2 wr => ∃ (k : Nat) (A : Option Addr) (c : Nat), k ≤ n ∧ i = .int .i64 k ∧ o = .slice A (nP l k).length c ∧ b = .bool (bP l k) ∧ Own wr w.heap.size 27 A (nP l k).length c (LI (nP l k)) ∧ Below w.heap.size w wr) (fun _ _ i _ _ _ => n - (intOf i).toNat)
  case atStart => exact ⟨0, none, 0, Nat.zero_le _, rfl, rfl, rfl, Own.nil _ _ _, Below.refl _ _⟩
  case round =>
    obtain ⟨k, A, c, hk, rfl, rfl, rfl, hO, hb⟩ := hrel
    have HO := Lib.hid hO
    have HB := Lib.hid hb
    clear hO hb
    by_cases hlt : k < n
    · have hkl : k < l.length := by rw [← HN.out]; exact hlt
      obtain ⟨b, off, ha, hbB, hc⟩ := RdB.at_ (HX.out.below (HB.out.mono HS.out)).rd (enc_at (enc := Value.int .i32) hkl)
      have hbl : b < wr.heap.size := Nat.lt_of_lt_of_le hbB (Nat.le_trans HS.out HB.out.size)
      dsimp only at ha
      subst ha
      have HST1 := Lib.hid (step_has hkl)
      have HST2 := Lib.hid (step_new hkl)
      have HST3 := Lib.hid (bP_succ hkl)
      have hlen := nP_len l k
      have HPI := Lib.hid (nP_in HIN.out k)
      have hy := HIN.out _ (List.getElem_mem hkl)
      generalize l[k]'hkl = y at *
      generalize hm0 : (nP l k).length = m at *
      have HM := Lib.hid hm0
      clear hkl hm0
      have HC := Lib.hid (has_any (w := wr) A m c (nP l k) y HM.out.symm (by omega) HO.out.rd)
      have HCN := Lib.hid (HH0.out wr HB.out (-y))
      have HKL := Lib.hid (show k < n from hlt)
      generalize nP l k = out at *
      generalize bP l k = bk at *
      go_wp2_with fail
      refine HC.out.mono ?_
      rintro e w1 ⟨rfl, rfl⟩
      cases hh : hasB out y with
      | true =>
        have HT := Lib.hid (HST1.out hh)
        clear hh HST2
        go_wp2
        go_roundw
        case rel => exact ⟨k + 1, A, c, by omega, by go_num, by rw [HT.out.1, HM.out], by rw [HT.out.2], by rw [HT.out.1, HM.out]; exact HO.out, HB.out⟩
        case measure => simp [intOf]; omega
      | false =>
        have HNEW := Lib.hid (HST2.out hh)
        clear hh HST1 HST2 HC
        have HBK := Lib.hid (show bP l (k + 1) = (bk || (decide (0 < y) && hasB l (-y))) from HST3.out)
        clear HST3
        obtain ⟨bk1, hbk1⟩ : ∃ b1, bP l (k + 1) = b1 := ⟨_, rfl⟩
        rw [hbk1] at HBK
        have HBE := Lib.hid hbk1
        clear hbk1
        go_upto_region 7 with (fail)
        go_cut [5] from 21 to 37 (fun b wx => b = .bool bk1 ∧ wx = wr)
        case first =>
          have e2 : 0 < y → IntKind.i32.wrap (-y) = -y := fun h => IntWalk.i32_in _ (by omega)
          cases bk with
          | true =>
            have HF := Lib.hid (show bk1 = true by rw [HBK.out]; rfl)
            go_wp2
            go_meet
            case rel => exact ⟨by rw [HF.out], rfl⟩
          | false =>
            by_cases hy0 : 0 < y
            · have HF := Lib.hid (show bk1 = hasB l (-y) by rw [HBK.out, decide_eq_true hy0]; rfl)
              have e3 := e2 hy0
              clear e2
              go_wp2_with fail
              refine HCN.out.mono ?_
              rintro e w1 ⟨rfl, rfl⟩
              go_wp2
              go_meet
              case rel => exact ⟨by rw [HF.out], rfl⟩
            · have HF := Lib.hid (show bk1 = false by rw [HBK.out, decide_eq_false hy0]; rfl)
              clear e2
              go_wp2
              go_meet
              case rel => exact ⟨by rw [HF.out], rfl⟩
        case rest =>
          obtain ⟨rfl, hw⟩ := hcut
          subst hw
          clear HCN HBK
          go_upto_block 2 with (fail)
          go_cut [7] from 38 to 54 (fun a wx => ∃ j : Nat, j ≤ m ∧ a = .int .i64 j ∧ ins y out = out.take j ++ ([y] ++ out.drop j) ∧ Below wc.heap.size wc wx)
          case first =>
            go_wp2_with fail
            go_loopw [7] (fun a wx => ∃ j : Nat, j ≤ m ∧ a = .int .i64 j ∧ (∀ i, i < j → ltL (out.getD i 0) y = true) ∧ Below wc.heap.size wc wx) (fun a _ => m - (intOf a).toNat)
            case atStart => exact ⟨0, Nat.zero_le _, rfl, fun i h => absurd h (Nat.not_lt_zero i), Below.refl _ _⟩
            case round =>
              obtain ⟨j, hj, rfl, hall, hb2⟩ := hrel
              have HALL := Lib.hid hall
              have HB2 := Lib.hid hb2
              clear hall hb2
              by_cases hjm : j < m
              · obtain ⟨g, hA, hbg, hrow⟩ := HO.out.row (by omega)
                subst hA
                have hjl : j < out.length := by rw [HM.out]; exact hjm
                have cj : wr.cell? ⟨g, j, none⟩ = some (.int .i32 (out.getD j 0)) := (hrow.below HB2.out).cell (ints_at hjl)
                have ci : wr.cell? ⟨b, off + k, none⟩ = some (.int .i32 y) := (HB2.out.cell (p := ⟨b, off + k, none⟩) hbl).trans hc
                have hz := HPI.out (out.getD j 0) (by rw [List.getD_eq_getElem?_getD, List.getElem?_eq_getElem hjl]; exact List.getElem_mem hjl)
                have HBF := Lib.hid (before_any (out.getD j 0) y hz hy)
                have HSP := Lib.hid (show ltL (out.getD j 0) y = false → ins y out = out.take j ++ ([y] ++ out.drop j) from fun h => split_at (by omega) (fun i hi => by
                  have := HALL.out i hi
                  rwa [List.getD_eq_getElem?_getD, List.getElem?_eq_getElem (by omega)] at this) (fun h2 => by
                  rwa [List.getD_eq_getElem?_getD, List.getElem?_eq_getElem h2] at h))
                have HAL2 := Lib.hid (show ltL (out.getD j 0) y = true → ∀ i, i < j + 1 → ltL (out.getD i 0) y = true from fun h i hi => by
                  rcases Nat.lt_or_ge i j with h2 | h2
                  · exact HALL.out i h2
                  · obtain rfl : i = j := by omega
                    exact h)
                clear hz hrow hbg hc
                generalize out.getD j 0 = z at *
                cases hq : ltL z y with
                | true =>
                  have HA3 := Lib.hid (HAL2.out hq)
                  rw [hq] at HBF
                  clear hq HAL2 HSP
                  go_wp2_with fail
                  go_quiet ((go_at_call 40; exact qs (HBF.out _) ⟨_, rfl⟩))
                  go_wp2
                  go_roundw
                  case rel => exact ⟨j + 1, by omega, by go_num, HA3.out, belowN HB2.out _⟩
                  case measure => simp [intOf]; omega
                | false =>
                  have HA3 := Lib.hid (HSP.out hq)
                  rw [hq] at HBF
                  clear hq HAL2 HSP
                  go_wp2_with fail
                  go_quiet ((go_at_call 40; exact qs (HBF.out _) ⟨_, rfl⟩))
                  go_wp2
                  go_meet
                  case rel => exact ⟨j, hj, rfl, HA3.out, belowN HB2.out _⟩
              · have HA3 := Lib.hid (show ins y out = out.take j ++ ([y] ++ out.drop j) from split_at (by rw [HM.out]; exact hj) (fun i hi => by
                  have := HALL.out i hi
                  rwa [List.getD_eq_getElem?_getD, List.getElem?_eq_getElem (by have := HM.out; omega)] at this) (fun h2 => absurd h2 (by have := HM.out; omega)))
                go_wp2_with fail
                go_quiet (fail)
                go_wp2
                go_meet
                case rel => exact ⟨j, hj, rfl, HA3.out, belowN HB2.out _⟩
          case rest =>
            obtain ⟨j, hj, rfl, hins, hb2⟩ := hcut
            have HO2 := Lib.hid (HO.out.below hb2)
            have HB2 := Lib.hid (below_then HB.out hb2 HB.out.size)
            rename World => wd
            have HNW := Lib.hid (HNEW.out.trans hins)
            have HLN := Lib.hid (show (nP l (k + 1)).length = j + 1 + (m - j) by rw [HNW.out, List.length_append, List.length_append, List.length_take, List.length_drop, HM.out]; simp; omega)
            have hln1 := HLN.out
            have hbl2 : b < wd.heap.size := Nat.lt_of_lt_of_le hbl hb2.size
            have hcd : wd.cell? ⟨b, off + k, none⟩ = some (.int .i32 y) := (hb2.cell (p := ⟨b, off + k, none⟩) hbl).trans hc
            have HLE := Lib.hid (nP_len l (k + 1))
            obtain ⟨m2, hm2⟩ : ∃ m2, (nP l (k + 1)).length = m2 := ⟨_, rfl⟩
            rw [hm2] at hln1 HLE
            have HM2 := Lib.hid hm2
            have HCD := Lib.hid hcd
            have HBL := Lib.hid hbl2
            have hown := HO2.out
            clear hm2 hins hb2 hc hbl HO hcd hbl2 HO2
            obtain ⟨hown1, hown2⟩ := hown
            clear hown1
            obtain ⟨rfl, rfl, h3⟩ | ⟨g, rfl, hg1, hg2, hrow⟩ := hown2
            · have hout : out = [] := by simpa [LI] using h3
              have hm0 : m = 0 := by have := HM.out; rw [hout] at this; exact this.symm
              obtain rfl : j = 0 := by omega
              subst hm0
              have HOUT := Lib.hid hout
              clear hout h3
              go_upto_region 13 with (at_builtin; refine wpApp rfl _ _ rfl wd.heap.size none 0 0 [] rfl (Own.nil _ _ _) none 0 0 [] rfl rfl (RdV.nil _ _) (fun _ => rfl) (by omega) (Nat.le_refl _) 0 rfl ?_; intro A1 d1 w1 hO1 hb1 hg1; have HO1 := Lib.hid hO1; have HBX1 := Lib.hid hb1; clear hO1 hb1 hg1)
              have c1 : w1.cell? ⟨b, off + k, none⟩ = some (.int .i32 y) := (HBX1.out.cell (p := ⟨b, off + k, none⟩) HBL.out).trans HCD.out
              go_upto_region 14 with (at_builtin; refine wpApp rfl _ _ rfl wd.heap.size A1 0 d1 [] rfl (HO1.out.alloc _) (some ⟨w1.heap.size, 0, none⟩) 1 1 [y] rfl rfl (one_rd w1 y _) (fun h => by cases h) (by omega) (by simp; have := HBX1.out.size; omega) 1 rfl ?_; intro A2 d2 w2 hO2 hb2 hg2; have HO2 := Lib.hid hO2; have HBX2 := Lib.hid (show Below wd.heap.size wd w2 from (HBX1.out.alloc HBX1.out.size _).trans hb2); clear hO2 hb2 hg2)
              go_wp2_with (at_builtin; refine wpApp rfl _ _ rfl wd.heap.size A2 1 d2 ([] ++ [y]) rfl HO2.out none 0 0 [] rfl rfl (RdV.nil _ _) (fun _ => rfl) (by omega) HBX2.out.size m2 (by omega) ?_; intro A3 d3 w3 hO3 hb3 hg3; have HO3 := Lib.hid hO3; have HBX3 := Lib.hid (show Below wd.heap.size wd w3 from HBX2.out.trans hb3); clear hO3 hb3 hg3)
              go_roundw
              case rel => exact ⟨k + 1, A3, d3, by omega, by go_num, by rw [HM2.out]; congr 1; omega, by rw [HBE.out], by rw [HM2.out, HNW.out, HOUT.out]; exact HO3.out.low HB2.out.size, HB2.out.trans (HBX3.out.mono HB2.out.size)⟩
              case measure => simp [intOf]; omega
            · have HROW := Lib.hid hrow
              have hjc : j ≤ c := Nat.le_trans hj (by have := hrow.le; rw [LI, List.length_map, HM.out] at this; exact this)
              have hmc : m ≤ c := by have := hrow.le; rw [LI, List.length_map, HM.out] at this; exact this
              have hcx : c ≤ 9223372036854775807 := by unfold maxLen at hg2; exact hg2
              have HG1 := Lib.hid (show g < wd.heap.size from hrow.lt)
              clear hrow hg1 hg2
              go_upto_region 13 with (at_builtin; refine wpApp rfl _ _ rfl wd.heap.size none 0 0 [] rfl (Own.nil _ _ _) (some ⟨g, 0, none⟩) j c (out.take j) rfl (by rw [List.length_take, HM.out]; omega) (ints_take HROW.out.rd j) (fun h => by cases h) (by omega) (Nat.le_refl _) j (by omega) ?_; intro A1 d1 w1 hO1 hb1 hg1; have HO1 := Lib.hid hO1; have HBX1 := Lib.hid hb1; clear hO1 hb1 hg1)
              have c1 : w1.cell? ⟨b, off + k, none⟩ = some (.int .i32 y) := (HBX1.out.cell (p := ⟨b, off + k, none⟩) HBL.out).trans HCD.out
              go_upto_region 14 with (at_builtin; refine wpApp rfl _ _ rfl wd.heap.size A1 j d1 ([] ++ out.take j) rfl (HO1.out.alloc _) (some ⟨w1.heap.size, 0, none⟩) 1 1 [y] rfl rfl (one_rd w1 y _) (fun h => by cases h) (by omega) (by simp; have := HBX1.out.size; omega) (j + 1) rfl ?_; intro A2 d2 w2 hO2 hb2 hg2; have HO2 := Lib.hid hO2; have HBX2 := Lib.hid (show Below wd.heap.size wd w2 from (HBX1.out.alloc HBX1.out.size _).trans hb2); clear hO2 hb2 hg2)
              by_cases hjc2 : j = c
              · subst hjc2
                have hmj : m = j := by omega
                subst hmj
                have HDR := Lib.hid (show out.drop m = [] from List.drop_of_length_le (by rw [HM.out]; exact Nat.le_refl _))
                go_wp2_with (at_builtin; go_loud (refine wpApp rfl _ _ rfl wd.heap.size A2 (m + 1) d2 (([] ++ out.take m) ++ [y]) rfl HO2.out (some ⟨g, 0, none⟩) _ _ [] rfl (by first | rfl | (show _ = 0; omega)) (RdV.nil _ _) (fun h => by cases h) (by omega) HBX2.out.size m2 (by omega) ?_; intro A3 d3 w3 hO3 hb3 hg3; have HO3 := Lib.hid hO3; have HBX3 := Lib.hid (show Below wd.heap.size wd w3 from HBX2.out.trans hb3); clear hO3 hb3 hg3))
                go_roundw
                case rel => exact ⟨k + 1, A3, d3, by omega, by go_num, by rw [HM2.out]; congr 1; omega, by rw [HBE.out], by
                  rw [HM2.out, HNW.out, HDR.out]
                  have := HO3.out.low HB2.out.size
                  simpa using this, HB2.out.trans (HBX3.out.mono HB2.out.size)⟩
                case measure => simp [intOf]; omega
              · have HDR := Lib.hid (show RdV w2 (some ⟨g, j, none⟩) (LI (out.drop j)) from ints_drop (HROW.out.mod (Mem.Mod.of_below HBX2.out) (by have := HG1.out; omega)))
                go_wp2_with (at_builtin; go_loud (refine wpApp rfl _ _ rfl wd.heap.size A2 (j + 1) d2 (([] ++ out.take j) ++ [y]) rfl HO2.out (some ⟨g, j, none⟩) (m - j) (c - j) (out.drop j) rfl (by rw [List.length_drop, HM.out]) HDR.out (fun h => by cases h) (by omega) HBX2.out.size m2 (by omega) ?_; intro A3 d3 w3 hO3 hb3 hg3; have HO3 := Lib.hid hO3; have HBX3 := Lib.hid (show Below wd.heap.size wd w3 from HBX2.out.trans hb3); clear hO3 hb3 hg3))
                go_roundw
                case rel => exact ⟨k + 1, A3, d3, by omega, by go_num, by rw [HM2.out]; congr 1; omega, by rw [HBE.out], by
                  rw [HM2.out, HNW.out]
                  have := HO3.out.low HB2.out.size
                  simpa using this, HB2.out.trans (HBX3.out.mono HB2.out.size)⟩
                case measure => simp [intOf]; omega
    · have HKN := Lib.hid (show k = l.length by rw [← HN.out]; omega)
      have HN1 := Lib.hid (show nP l k = d by rw [HKN.out]; exact HE1.out)
      have HN2 := Lib.hid (show bP l k = bo by rw [HKN.out]; exact HE2.out)
      rw [HN1.out] at HO
      rw [HN1.out, HN2.out]
      go_wp2
      go_ret2
      exact ⟨⟨A, c, rfl, HO.out⟩, HB.out⟩
end Go.Proofs.Ytbgfijnadfeleaa.Cy
