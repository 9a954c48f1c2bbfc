/- The statement's works, place, without. Conditions: the memory. -/
import Derived.Test.YtienomdennbkpaaHu
namespace Go.Proofs.Ytienomdennbkpaa.He
open Go.RowKit Go.Proofs.Ytienomdennbkpaa.Mem Go.Proofs.Ytienomdennbkpaa.Sl Go.Shelf
open Go.Proofs.Ytienomdennbkpaa.FnL (enc_at below_then)
set_option linter.unusedVariables false

theorem Ord.of {s l' l : List Int} (hp : l'.Perm l) (hs : (l'.map (kf s)).Pairwise (· < ·)) : Ord s l' l := ⟨hp, by rwa [List.pairwise_map] at hs⟩
set_option maxRecDepth 100000 in
set_option maxHeartbeats 1000000 in
theorem works_any (w : World) : Calls Try.prog 8 #[] w fun e w' => e = .returned (.bool true) ∧ Below w.heap.size w w' := by
  have HN := Lib.hid (al_new 4 (by decide) w)
  have HN := Lib.hid (show Calls Try.prog 9 #[.int .i64 4] w (AlNewR w 4) from HN.out)
  have HP := Lib.hid (fun W g l v (h : Al W w.heap.size 4 g nox (List.replicate 5 0) l) (hB : w.heap.size ≤ W.heap.size) => al_push h hB (fun _ e => e.elim) v)
  have HB := Lib.hid (fun W g (h : Al W w.heap.size 4 g nox (List.replicate 5 0) [3, 1]) (hB : w.heap.size ≤ W.heap.size) => al_bump h hB (fun _ e => e.elim) 3 5 (by decide) (by decide))
  go_enter Try.func8, Try.ntmps8
  go_wp2_with fail
  refine HN.out.mono ?_
  rintro e w1 ⟨⟨g, rfl, h1⟩, hb1⟩
  have H1 := Lib.hid h1
  have HB1 := Lib.hid hb1
  clear h1 hb1
  have HP1 := Lib.hid (HP.out w1 g [] 3 H1.out HB1.out.size)
  rw [show pushE 4 [] 3 = 0 by decide, show pushL 4 [] 3 = [3] by decide] at HP1
  go_wp2_with fail
  refine HP1.out.mono ?_
  rintro e w2 ⟨rfl, h2, hb2, _⟩
  have H2 := Lib.hid h2
  have HB2 := Lib.hid (HB1.out.trans hb2)
  clear h2 hb2 HP1 H1 HB1
  have HP2 := Lib.hid (HP.out w2 g [3] 1 H2.out HB2.out.size)
  rw [show pushE 4 [3] 1 = 0 by decide, show pushL 4 [3] 1 = [3, 1] by decide] at HP2
  go_wp2_with fail
  refine HP2.out.mono ?_
  rintro e w3 ⟨rfl, h3, hb3, _⟩
  have H3 := Lib.hid h3
  have HB3 := Lib.hid (HB2.out.trans hb3)
  clear h3 hb3 HP2 H2 HB2 HP
  have HT := Lib.hid (al_top H3.out (l' := [1, 3]) (Ord.of (by decide) (by decide)))
  have HT := Lib.hid (show Calls Try.prog 27 #[.pointer (some ⟨g, 0, none⟩)] w3 fun e w' => e = .returned (.tuple #[.int .i64 1, .bool true]) ∧ w3 = w' from HT.out)
  go_wp2_with fail
  refine HT.out.mono ?_
  rintro e w4 ⟨rfl, rfl⟩
  have HB4 := Lib.hid (HB.out w3 g H3.out HB3.out.size)
  rw [show decide (MOST < (List.replicate 5 (0 : Int)).getD 3 0 + 5) = false by decide, show bumpF (List.replicate 5 0) 3 5 = [0, 0, 0, 5, 0] by decide] at HB4
  have HB4 := Lib.hid (show Calls Try.prog 10 #[.pointer (some ⟨g, 0, none⟩), .int .i64 3, .int .i64 5] w3 fun e w' => e = .returned (.tuple #[.bool false, .int .i64 0]) ∧ After w3 w.heap.size 4 g nox [0, 0, 0, 5, 0] [3, 1] w' from HB4.out)
  clear HT HB H3
  go_wp2_with fail
  refine HB4.out.mono ?_
  rintro e w5 ⟨rfl, h5, hb5, _⟩
  have H5 := Lib.hid h5
  have HB5 := Lib.hid (HB3.out.trans hb5)
  clear h5 hb5 HB4 HB3
  have HO := Lib.hid (al_ord H5.out (l0 := [3, 1]) (n := 2) (Ord.of (by decide) (by decide)) rfl)
  go_wp2_with fail
  refine HO.out.mono ?_
  rintro e w6 ⟨⟨A, c, rfl, hO⟩, hb6⟩
  have HOW := Lib.hid hO
  have HB6 := Lib.hid (below_then HB5.out hb6 HB5.out.size)
  have H6 := Lib.hid (H5.out.below hb6)
  clear hO hb6 HO H5 HB5
  have HSM := Lib.hid (show Calls Try.prog 13 #[.slice A 2 c, .slice (some ⟨w6.heap.size, 0, none⟩) 2 2] (w6.alloc (.cells #[.int .i64 3, .int .i64 1] 3)) fun e w' => e = .returned (.bool true) ∧ Below (w6.alloc (.cells #[.int .i64 3, .int .i64 1] 3)).heap.size (w6.alloc (.cells #[.int .i64 3, .int .i64 1] 3)) w' from by
    have := same_any (w := w6.alloc (.cells #[.int .i64 3, .int .i64 1] 3)) A 2 c [3, 1] rfl (HOW.out.alloc _).rd (some ⟨w6.heap.size, 0, none⟩) 2 2 [3, 1] rfl (by have := (Row.new w6 3 (LZ [3, 1])).rd; exact this) (by decide) (by decide)
    rwa [show ([3, 1] == ([3, 1] : List Int)) = true by decide] at this)
  have HBA := Lib.hid (HB6.out.alloc HB6.out.size (.cells #[.int .i64 3, .int .i64 1] 3))
  have H7 := Lib.hid (H6.out.below ((Below.refl _ _).alloc (Nat.le_refl _) (.cells #[.int .i64 3, .int .i64 1] 3)))
  go_wp2_with fail
  refine HSM.out.mono ?_
  rintro e w7 ⟨rfl, hb7⟩
  have HB7 := Lib.hid (below_then HBA.out hb7 HBA.out.size)
  have HSZ := Lib.hid (al_size (H7.out.below hb7))
  have HSZ := Lib.hid (show Calls Try.prog 19 #[.pointer (some ⟨g, 0, none⟩)] w7 fun e w' => e = .returned (.int .i64 2) ∧ w7 = w' from HSZ.out)
  clear hb7 HSM HBA H7 H6 HOW HB6
  go_wp2_with fail
  refine HSZ.out.mono ?_
  rintro e w8 ⟨rfl, rfl⟩
  go_wp2
  go_ret
  exact ⟨rfl, HB7.out⟩
set_option maxRecDepth 100000 in
theorem place_any {w : World} (A : Option Addr) (n c : Nat) (l : List Int) (hn : n = l.length) (hr : RdV w A (LZ l)) (hm : n ≤ 4000000) (v : Int) :
    Calls Try.prog 14 #[.slice A n c, .int .i64 v] w fun e w' => e = .returned (.int .i64 (l.findIdx (· == v) : Nat)) ∧ w = w' := by
  have HR := Lib.hid hr
  have HN := Lib.hid hn
  clear hr hn
  go_enter Try.func14, Try.ntmps14
  go_wp2_with fail
  go_loopw [5] (fun i wr => ∃ k : Nat, k ≤ n ∧ i = .int .i64 k ∧ (∀ j, j < k → l.getD j 0 ≠ v) ∧ w = wr) (fun i _ => n - (intOf i).toNat)
  case atStart => exact ⟨0, Nat.zero_le _, rfl, fun j hj => absurd hj (Nat.not_lt_zero _), rfl⟩
  case round =>
    obtain ⟨k, hk, rfl, hno, rfl⟩ := hrel
    have HNO := Lib.hid hno
    clear hno
    by_cases hlt : k < n
    · obtain ⟨b, off, eA, _, ca⟩ := RdV.at_ HR.out (LZ_at (l := l) (i := k) (by rw [← HN.out]; exact hlt))
      have hlt1 : (k : Int) < (n : Int) := by omega
      subst eA
      obtain ⟨x, hx⟩ : ∃ x, x = l.getD k 0 := ⟨_, rfl⟩
      rw [← hx] at ca
      have HX := Lib.hid hx
      clear hx
      by_cases hxv : x = v
      · have HE := Lib.hid (show l.findIdx (· == v) = k from by
          have hkl : k < l.length := by rw [← HN.out]; exact hlt
          refine (List.findIdx_eq hkl).2 ⟨?_, fun j hj => ?_⟩
          · have := HX.out
            rw [List.getD_eq_getElem?_getD, List.getElem?_eq_getElem hkl] at this
            rw [beq_iff_eq]; exact this.symm.trans hxv
          · have := HNO.out j hj
            rw [List.getD_eq_getElem?_getD, List.getElem?_eq_getElem (by omega)] at this
            rw [beq_eq_false_iff_ne]; exact this)
        subst hxv
        go_wp2
        go_ret
        exact ⟨by rw [HE.out]; rfl, rfl⟩
      · go_wp2
        go_roundw
        case rel => exact ⟨k + 1, by omega, by go_num, fun j hj => by
          by_cases hjk : j = k
          · subst hjk; rw [← HX.out]; exact hxv
          · exact HNO.out j (by omega), (by first | rfl | trivial)⟩
        case measure => simp [intOf]; omega
    · have hlt1 : ¬ (k : Int) < (n : Int) := by omega
      have HE := Lib.hid (show l.findIdx (· == v) = n from by
        rw [HN.out]
        refine List.findIdx_eq_length.2 fun x hx => ?_
        obtain ⟨j, hj, rfl⟩ := List.getElem_of_mem hx
        have := HNO.out j (by have := HN.out; omega)
        rw [List.getD_eq_getElem?_getD, List.getElem?_eq_getElem hj] at this
        rw [beq_eq_false_iff_ne]; exact this)
      go_wp2
      go_ret
      exact ⟨by rw [HE.out]; rfl, rfl⟩
def WoR (w : World) (v : Int) (l : List Int) (e : Ending) (w' : World) : Prop := (∃ A c, e = .returned (.slice A (wo v l).length c) ∧ App.Own w' w.heap.size 3 A (wo v l).length c (LZ (wo v l))) ∧ Below w.heap.size w w'
set_option maxRecDepth 100000 in
theorem without_any {w : World} (A : Option Addr) (n c : Nat) (l : List Int) (hn : n = l.length) (hr : RdV w A (LZ l)) (hm : n ≤ 1048576) (v : Int) :
    Calls Try.prog 15 #[.slice A n c, .int .i64 v] w (WoR w v l) := by
  have HR := Lib.hid hr
  have HN := Lib.hid hn
  clear hr hn
  go_enter Try.func15, Try.ntmps15
  go_wp2_with fail
  go_loopw [5, 6] (fun a i wr => ∃ (k m c : Nat) (A : Option Addr), k ≤ n ∧ i = .int .i64 k ∧ a = .slice A m c ∧ m = (wo v (l.take k)).length ∧ App.Own wr w.heap.size 3 A m c (LZ (wo v (l.take k))) ∧ Below w.heap.size w wr) (fun _ i _ => n - (intOf i).toNat)
  case atStart => exact ⟨0, 0, 0, none, Nat.zero_le _, rfl, rfl, rfl, App.Own.nil _ _ _, Below.refl _ _⟩
  case round =>
    obtain ⟨k, m, c', A', hk, rfl, rfl, hmn, hO, hbw⟩ := hrel
    have HO := Lib.hid hO
    have HB := Lib.hid hbw
    have HM := Lib.hid hmn
    have hnb : m ≤ 1048576 := by
      have := wo_len v (l.take k)
      rw [List.length_take] at this
      omega
    clear hO hbw hmn
    by_cases hlt : k < n
    · obtain ⟨b, off, eA, _, ca⟩ := RdV.at_ (HR.out.below HB.out) (LZ_at (l := l) (i := k) (by rw [← HN.out]; exact hlt))
      have hlt1 : (k : Int) < (n : Int) := by omega
      subst eA
      have HWS := Lib.hid (wo_snoc v l (k := k) (by rw [← HN.out]; exact hlt))
      generalize hx : l.getD k 0 = x at *
      have HXX := Lib.hid hx
      clear hx
      by_cases hxv : x = v
      · rw [if_pos hxv] at HWS
        subst hxv
        go_wp2
        go_roundw
        case rel => exact ⟨k + 1, m, c', A', by omega, by go_num, rfl, by rw [HWS.out]; exact HM.out, by rw [HWS.out]; exact HO.out, HB.out⟩
        case measure => simp [intOf]; omega
      · rw [if_neg hxv] at HWS
        have HOA := Lib.hid (HO.out.alloc (.cells #[.int .i64 x] 3))
        have HC1 := Lib.hid (show (wr.alloc (.cells #[.int .i64 x] 3)).cell? ⟨wr.heap.size, 0, none⟩ = some (.int .i64 x) from (Blk.new _ _ _).cell 0)
        have HSZ := Lib.hid (show w.heap.size ≤ (wr.alloc (.cells #[.int .i64 x] 3)).heap.size by rw [World.size_alloc]; have := HB.out.size; omega)
        go_wp2_with (at_builtin; refine wpAppOne rfl _ _ rfl w.heap.size A' m c' (wo v (l.take k)) rfl HOA.out wr.heap.size 1 x rfl HC1.out (by omega) HSZ.out ?_; intro A2 c2' w2 hO2 hg2 hA2; have HO2 := Lib.hid hO2; have HB2 := Lib.hid ((HB.out.alloc HB.out.size (.cells #[.int .i64 x] 3)).trans (grown_below HOA.out HSZ.out hg2)); clear hO2 hg2 hA2)
        go_roundw
        case rel => exact ⟨k + 1, m + 1, c2', A2, by omega, by go_num, rfl, by rw [HWS.out, List.length_append, ← HM.out]; rfl, by rw [HWS.out]; exact HO2.out, HB2.out⟩
        case measure => simp [intOf]; omega
    · have hlt1 : ¬ (k : Int) < (n : Int) := by omega
      have HK := Lib.hid (show l.take k = l from List.take_of_length_le (by rw [← HN.out]; omega))
      rw [HK.out] at HM HO
      have HFIN := Lib.hid (show WoR w v l (.returned (.slice A' m c')) wr from ⟨⟨A', c', by rw [HM.out], HM.out ▸ HO.out⟩, HB.out⟩)
      go_wp2
      go_ret
      exact HFIN.out
end Go.Proofs.Ytienomdennbkpaa.He
