/- slices.DeleteFunc of records. Conditions: the memory. -/
import Derived.Test.YtcblhfjgdkbinaaJi
namespace Go.Proofs.Ytcblhfjgdkbinaa.Re
open Go.RowKit Go.Proofs.Ytcblhfjgdkbinaa.Mem Go.Proofs.Ytcblhfjgdkbinaa.Sl Go.Shelf Go.Sort Go.Proofs.Ytcblhfjgdkbinaa.Sr
open Go.Proofs.Ytcblhfjgdkbinaa.FnL (enc_at below_then)
set_option linter.unusedVariables false

section
variable {p : Rc → Bool}
/-- Under way: what stays of the first j stands ahead; from j on all as it was. -/
structure DW (p : Rc → Bool) (l : List Rc) (i j : Nat) (k : List Rc) : Prop where
  len : k.length = l.length
  lt : i < j
  le : j ≤ l.length
  hd : k.take i = (l.take j).filter p
  tl : k.drop j = l.drop j
theorem DW.start {l : List Rc} {i : Nat} (hi : i < l.length) (h0 : p l[i]! = false) (h1 : ∀ j, j < i → p l[j]! = true) : DW p l i (i + 1) l := by
  refine ⟨rfl, Nat.lt_succ_self _, hi, ?_, rfl⟩
  rw [List.take_succ_eq_append_getElem hi, List.filter_append]
  have e1 : (l.take i).filter p = l.take i := List.filter_eq_self.2 fun x hx => by
    obtain ⟨j, hj, rfl⟩ := List.getElem_of_mem hx
    rw [List.length_take] at hj
    have := h1 j (by omega)
    rw [getElem!_pos l j (by omega)] at this
    rw [List.getElem_take]
    exact this
  have e2 : [l[i]].filter p = [] := by
    rw [getElem!_pos l i hi] at h0
    simp [h0]
  rw [e1, e2, List.append_nil]
theorem DW.at_ {l k : List Rc} {i j : Nat} (h : DW p l i j k) (hj : j < l.length) : k[j]! = l[j]! := by
  have e := congrArg (fun x => x[0]?) h.tl
  simp only [List.getElem?_drop, Nat.add_zero] at e
  rw [List.getElem?_eq_getElem hj, List.getElem?_eq_getElem (by rw [h.len]; exact hj)] at e
  rw [getElem!_pos l j hj, getElem!_pos k j (by rw [h.len]; exact hj)]
  exact Option.some.inj e
theorem DW.skip {l k : List Rc} {i j : Nat} (h : DW p l i j k) (hj : j < l.length) (h0 : p l[j]! = false) : DW p l i (j + 1) k := by
  refine ⟨h.len, by have := h.lt; omega, hj, ?_, ?_⟩
  · rw [List.take_succ_eq_append_getElem hj, List.filter_append, h.hd]
    rw [getElem!_pos l j hj] at h0
    simp [h0]
  · have e := congrArg (fun x => x.drop 1) h.tl
    simpa [List.drop_drop] using e
theorem DW.put {l k : List Rc} {i j : Nat} (h : DW p l i j k) (hj : j < l.length) (h0 : p l[j]! = true) : DW p l (i + 1) (j + 1) (k.set i l[j]!) := by
  have hlt := h.lt
  have hi : i < k.length := by rw [h.len]; omega
  refine ⟨by simp [h.len], by omega, hj, ?_, ?_⟩
  · rw [List.take_succ_eq_append_getElem (by simpa using hi), List.take_set_of_le (Nat.le_refl _), h.hd, List.take_succ_eq_append_getElem hj, List.filter_append]
    have e2 : [l[j]].filter p = [l[j]!] := by
      rw [getElem!_pos l j hj] at h0 ⊢
      simp [h0]
    rw [e2]
    simp
  · rw [List.drop_set_of_lt (by omega)]
    have e := congrArg (fun x => x.drop 1) h.tl
    simpa [List.drop_drop] using e
theorem DW.done {l k : List Rc} {i : Nat} (h : DW p l i l.length k) : k.take i = l.filter p := by
  rw [h.hd, List.take_length]
end
/-- What DeleteFunc leaves. -/
def DelR (w : World) (g N c : Nat) (l : List Rc) (e : Ending) (w' : World) : Prop :=
  e = .returned (.slice (some ⟨g, 0, none⟩) l.length c) ∧ HK w' g l.toArray ∧ Mod (fun k => k = g) w w'
set_option maxRecDepth 100000 in
set_option maxHeartbeats 4000000 in
theorem delete_any (l : List Rc) (N c g b : Nat) (gl : Int) {w : World} (h : HK w g l.toArray) (hN : N = l.length) (hcap : N ≤ c) (hm : N ≤ 1000000) (hc : w.cell? ⟨b, 0, none⟩ = some (.int .i64 gl)) (hb : b < w.heap.size) (hbg : b ≠ g) :
    Calls Try.prog 14 #[.slice (some ⟨g, 0, none⟩) N c, delV b] w (DelR w g N c (l.filter (goF gl))) := by
  have HI := Lib.hid (index_any l.toArray N c g b gl h (by simpa using hN) hm hc hb)
  have H := Lib.hid h
  have HN := Lib.hid hN
  have HC := Lib.hid hc
  have HB := Lib.hid hb
  have HBG := Lib.hid hbg
  clear h hN hc hb hbg
  go_enter Try.func14, Try.ntmps14
  go_wp2_with fail
  refine HI.out.mono ?_
  rintro e w1 ⟨hb1, ⟨rfl, hall⟩ | ⟨i, rfl, hi, hi0, hi1⟩⟩
  · have HF := Lib.hid (show DelR w g N c (l.filter (goF gl)) (.returned (.slice (some ⟨g, 0, none⟩) N c)) w1 from by
      have e : l.filter (goF gl) = l := List.filter_eq_self.2 fun x hx => by
        obtain ⟨j, hj, rfl⟩ := List.getElem_of_mem hx
        have := hall j (by rw [HN.out]; exact hj)
        rw [arr_get, getElem!_pos l j hj] at this
        exact this
      rw [e]
      exact ⟨by rw [← HN.out], H.out.below hb1, Mod.none_ hb1 _⟩)
    clear hb1 hall HI
    go_wp2
    go_ret
    exact HF.out
  · have HW0 := Lib.hid (show DW (goF gl) l i (i + 1) l from DW.start (by rw [← HN.out]; exact hi) (by rw [← arr_get]; exact hi0) (fun j hj => by rw [← arr_get]; exact hi1 j hj))
    have HH1 := Lib.hid (H.out.below hb1)
    have HM1 := Lib.hid (Mod.none_ hb1 (fun k => k = g))
    have ne1 : ((i : Int) == -1) = false := by rw [beq_eq_false_iff_ne]; omega
    clear hb1 hi0 hi1 HI
    go_wp2
    go_loopw [5, 6] (fun vi vj wr => ∃ (x y : Nat) (k : List Rc), vi = .int .i64 x ∧ vj = .int .i64 y ∧ x < y ∧ y ≤ N ∧ HK wr g k.toArray ∧ Mod (fun k => k = g) w wr ∧ Hid (DW (goF gl) l x y k)) (fun vi vj _ => N - (intOf vj).toNat)
    case atStart => exact ⟨i, i + 1, l, rfl, by go_num, Nat.lt_succ_self _, hi, HH1.out, HM1.out, HW0.out⟩
    case round =>
      clear HW0 HH1 HM1 hi ne1
      obtain ⟨x, y, k, rfl, rfl, hxy, hyN, hH, hM, HW⟩ := hrel
      have HH := Lib.hid hH
      have HM := Lib.hid hM
      have HS := Lib.hid (show k.length = N from HW.out.len.trans HN.out.symm)
      clear hH hM
      by_cases hlt : y < N
      · have hz : (y : Int) < (N : Int) := by omega
        have hk5 := fun (W : World) (hb : Below wr.heap.size wr W) => (HH.out.below hb).cells5 (i := y) (show y < k.toArray.size by have := HS.out; simp; omega)
        have HEQ := Lib.hid (show (k.toArray)[y]! = l[y]! from (arr_get k y).trans (HW.out.at_ (by rw [← HN.out]; exact hlt)))
        obtain ⟨r, hr⟩ : ∃ r, r = (k.toArray)[y]! := ⟨_, rfl⟩
        rw [← hr] at hk5
        have HRR := Lib.hid hr
        obtain ⟨q0, q1, q2, q3, q4⟩ := hk5 wr (Below.refl _ _)
        clear hr hk5
        obtain ⟨W, hW⟩ : ∃ W, W = (wr.alloc (.cells #[.int .i64 r.id, .int .i64 r.lbd, .int .i64 r.size, .int .i64 r.used, .bool r.locked] 28)) := ⟨_, rfl⟩
        have HBW := Lib.hid (show Below wr.heap.size wr W by rw [hW]; exact (Below.refl _ _).alloc (Nat.le_refl _) _)
        have HX := Lib.hid (show Blk W wr.heap.size 28 #[.int .i64 r.id, .int .i64 r.lbd, .int .i64 r.size, .int .i64 r.used, .bool r.locked] by rw [hW]; exact Blk.new _ _ _)
        have HWE := Lib.hid hW
        clear hW
        have HX2 := Lib.hid (fun (W2 : World) (hb : Below W.heap.size W W2) => (show (W2.cell? ⟨wr.heap.size, 0, none⟩ = some (.int .i64 r.id) ∧ W2.cell? ⟨wr.heap.size, 1, none⟩ = some (.int .i64 r.lbd) ∧ W2.cell? ⟨wr.heap.size, 2, none⟩ = some (.int .i64 r.size) ∧ W2.cell? ⟨wr.heap.size, 3, none⟩ = some (.int .i64 r.used) ∧ W2.cell? ⟨wr.heap.size, 4, none⟩ = some (.bool r.locked)) from ⟨(HX.out.below hb).cell 0, (HX.out.below hb).cell 1, (HX.out.below hb).cell 2, (HX.out.below hb).cell 3, (HX.out.below hb).cell 4⟩))
        have HCW := Lib.hid (show W.cell? ⟨b, 0, none⟩ = some (.int .i64 gl) from by
          have h1 : wr.cell? ⟨b, 0, none⟩ = some (.int .i64 gl) := (World.cell?_of_block (a := ⟨b, 0, none⟩) (HM.out.block b HB.out HBG.out)).trans HC.out
          exact (HBW.out.cell (p := ⟨b, 0, none⟩) (Nat.lt_of_lt_of_le HB.out HM.out.size)).trans h1)
        have HCC := Lib.hid (show ∀ W', W' = W → Calls Try.prog 16 #[agR r, .pointer (some ⟨b, 0, none⟩)] W' fun e w' => e = .returned (.bool (!goF gl r)) ∧ Below W'.heap.size W' w' from fun W' e => by
          subst e
          exact not_any r gl W' b HCW.out (by have h1 := HB.out; have h2 := HM.out.size; have h3 := HBW.out.size; omega))
        by_cases hg : goF gl r = true
        · rw [hg] at HCC
          have HPT := Lib.hid (fun (W2 : World) (hb : Below W.heap.size W W2) => ((HH.out.below (below_then HBW.out hb HBW.out.size)).put Try.prog (i := x) (show x < k.toArray.size by have := HS.out; simp; omega) r))
          have HW2 := Lib.hid (show DW (goF gl) l (x + 1) (y + 1) (k.set x r) from by
            have := HW.out.put (by rw [← HN.out]; exact hlt) (by rw [← HEQ.out, ← HRR.out]; exact hg)
            rwa [← HEQ.out, ← HRR.out] at this)
          clear hg
          go_wp2_with fail
          refine (HCC.out _ HWE.out.symm).mono ?_
          rintro e w2 ⟨rfl, hb2⟩
          obtain ⟨s1, h3, h4⟩ := HPT.out w2 (by rw [HWE.out]; exact hb2)
          obtain ⟨u0, u1, u2, u3, u4⟩ := HX2.out w2 (by rw [HWE.out]; exact hb2)
          have H3 := Lib.hid (show HK (w2.setCells g (x * 5) (encR r)) g (k.set x r).toArray from by simpa using h3)
          have H4 := Lib.hid ((HM.out.then_ (Mod.none_ (below_then HBW.out (by rw [HWE.out]; exact hb2) HBW.out.size) _)).then_ h4)
          have HHW := Lib.hid (HH.out.below (below_then HBW.out (by rw [HWE.out]; exact hb2) HBW.out.size))
          obtain ⟨t0, t1, t2, t3, t4⟩ := HHW.out.cells5 (i := x) (show x < k.toArray.size by have := HS.out; simp; omega)
          have HFZ := Lib.hid (fun j (hj : j < 5) => (HHW.out.1 (x * 5 + j) (by rw [size_flatK]; have := HS.out; simp; omega)).2)
          have f0 : w2.frozen? ⟨g, x * 5, none⟩ = false := by have := HFZ.out 0 (by decide); rwa [Nat.zero_add, Nat.add_zero] at this
          have f1 : w2.frozen? ⟨g, x * 5 + 1, none⟩ = false := by have := HFZ.out 1 (by decide); rwa [Nat.zero_add] at this
          have f2 : w2.frozen? ⟨g, x * 5 + 2, none⟩ = false := by have := HFZ.out 2 (by decide); rwa [Nat.zero_add] at this
          have f3 : w2.frozen? ⟨g, x * 5 + 3, none⟩ = false := by have := HFZ.out 3 (by decide); rwa [Nat.zero_add] at this
          have f4 : w2.frozen? ⟨g, x * 5 + 4, none⟩ = false := by have := HFZ.out 4 (by decide); rwa [Nat.zero_add] at this
          have x1 : x < N := by omega
          have x2 : (x : Int) < (N : Int) := by omega
          clear h3 h4 hb2 HCC s1 HPT HX2 q0 q1 q2 q3 q4
          go_wp2
          go_roundw
          case rel => exact ⟨x + 1, y + 1, k.set x r, by go_num, by go_num, by omega, hlt, H3.out, H4.out, HW2.out⟩
          case measure => simp [intOf]; omega
        · have hg' : goF gl r = false := by simpa using hg
          rw [hg'] at HCC
          have HW2 := Lib.hid (HW.out.skip (by rw [← HN.out]; exact hlt) (by rw [← HEQ.out, ← HRR.out]; exact hg'))
          clear hg hg'
          go_wp2_with fail
          refine (HCC.out _ HWE.out.symm).mono ?_
          rintro e w2 ⟨rfl, hb2⟩
          have HB2 := Lib.hid (below_then HBW.out (by rw [HWE.out]; exact hb2) HBW.out.size)
          have HH2 := Lib.hid (HH.out.below HB2.out)
          have HM2 := Lib.hid (HM.out.then_ (Mod.none_ HB2.out (fun k => k = g)))
          clear hb2 HCC HX2 q0 q1 q2 q3 q4
          go_wp2
          go_roundw
          case rel => exact ⟨x, y + 1, k, rfl, by go_num, by omega, hlt, HH2.out, HM2.out, HW2.out⟩
          case measure => simp [intOf]; omega
      · have hz : ¬ (y : Int) < (N : Int) := by omega
        have eyN : y = N := by omega
        have HWD := Lib.hid (show DW (goF gl) l x l.length k by have := HW.out; rwa [eyN, HN.out] at this)
        have HTK := Lib.hid HWD.out.done
        have hxN : x < N := by omega
        clear eyN hxy HW
        have hsz : k.toArray.size = N := by have := HS.out; simpa using this
        have hlen : (l.filter (goF gl)).length = x := by rw [← HTK.out, List.length_take, HS.out]; omega
        obtain ⟨vs, hv1, hv2⟩ := run_clearR wr 0 g (x * 5) (N - x) (c - x) (by omega) (fun j hj => by
          have := (HH.out.1 (x * 5 + j) (by rw [size_flatK, hsz]; omega)).1
          rw [Nat.zero_add] at this
          rw [this]; rfl) (fun j hj => by
          have := (HH.out.1 (x * 5 + j) (by rw [size_flatK, hsz]; omega)).2
          rw [Nat.zero_add] at this
          exact this)
        obtain ⟨h3, h4⟩ := HH.out.clear_ (k := x) (by rw [hsz]; omega) vs (by rw [hsz]; exact hv1)
        have HF := Lib.hid (show DelR w g N c (l.filter (goF gl)) (.returned (.slice (some ⟨g, 0, none⟩) x c)) (wr.setCells g (x * 5) vs) from ⟨by rw [hlen], by
          rw [← HTK.out]; exact h3, HM.out.then_ h4⟩)
        obtain ⟨w3, hw3⟩ : ∃ w3, w3 = wr.setCells g (x * 5) vs := ⟨_, rfl⟩
        rw [← hw3] at HF hv2
        clear h3 h4 hv1 hw3 HWD hsz hlen HTK HH HM
        go_wp2
        go_ret
        exact HF.out
end Go.Proofs.Ytcblhfjgdkbinaa.Re
