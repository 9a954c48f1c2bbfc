/- The document's arena: Words, Get, Kill, Mark, Shrink, Swap. Conditions: the memory. -/
import Derived.Test.YtenadnmglhghiaaAu
namespace Go.Proofs.Ytenadnmglhghiaa.Ar
open Go.RowKit Go.Proofs.Ytenadnmglhghiaa.Mem Go.Proofs.Ytenadnmglhghiaa.Sl Go.Shelf
open Go.Proofs.Ytenadnmglhghiaa.FnL (enc_at below_then)
set_option linter.unusedVariables false

section
variable {w : World} {base gd c : Nat} {S : Nat → Prop} {A : Option Addr} {lim : Int} {z : List (Itm × LAd)}
theorem fnd_z (h : RA w base S gd A c lim z) (r : Int) : (fnd (itm z) r = none ∧ get (itm z) r = zeroItm ∧ fI (fnd (itm z) r) = -1) ∨ (∃ i, ∃ hi : i < z.length, fnd (itm z) r = some i ∧ get (itm z) r = z[i].1 ∧ fI (fnd (itm z) r) = i ∧ r = (sumw ((itm z).take i) : Nat) ∧ z[i].1.dead = false) := by
  rcases find_cases (itm z) r with ⟨_, h1, h2⟩ | ⟨i, hi, _, h1, h2, h3, h4⟩
  · exact .inl ⟨h1, h2, by rw [h1]; rfl⟩
  · have hi' : i < z.length := by rwa [itm_len] at hi
    rw [itm_at hi'] at h2 h4
    exact .inr ⟨i, hi', h1, h2, by rw [h1]; rfl, h3, h4⟩
/-- An item is another one now. -/
theorem rows_set {i : Nat} (hi : i < z.length) (p : Itm × LAd) (hw : z[i].1.wd = p.1.wd) : rowsD 0 (z.set i p) = rowsD 0 (z.take i) ++ (cellsD (sumw ((itm z).take i)) p ++ rowsD (sumw ((itm z).take i) + z[i].1.wd) (z.drop (i + 1))) := by
  have hi' : i < (z.set i p).length := by rw [List.length_set]; exact hi
  have h1 := rowsD_split hi'
  have h2 : (itm (z.set i p)).take i = (itm z).take i := by
    rw [itm_take, itm_take, List.take_set_of_le (Nat.le_refl _)]
  rw [h2, List.take_set_of_le (Nat.le_refl _), List.getElem_set_self, List.drop_set_of_lt (by omega), ← hw] at h1
  exact h1
theorem itm_set (z : List (Itm × LAd)) (i : Nat) (p : Itm × LAd) : itm (z.set i p) = (itm z).set i p.1 := by unfold itm; rw [List.map_set]
theorem set8 {A B : List Value} {n : Nat} (hA : A.length = n) (x0 x1 x2 x3 x4 x5 x6 x7 v0 v1 v2 v3 v4 v5 v6 v7 : Value) :
    ((((((((A ++ ([x0, x1, x2, x3, x4, x5, x6, x7] ++ B)).set n v0).set (n + 1) v1).set (n + 2) v2).set (n + 3) v3).set (n + 4) v4).set (n + 5) v5).set (n + 6) v6).set (n + 7) v7 = A ++ ([v0, v1, v2, v3, v4, v5, v6, v7] ++ B) := by
  subst hA
  simp only [List.set_append_right _ _ (Nat.le_refl _), List.set_append_right _ _ (Nat.le_add_right _ _), Nat.sub_self, Nat.add_sub_cancel_left, List.cons_append, List.set_cons_zero, List.set_cons_succ]
/-- The world in which item i is written anew. -/
def put8 (W : World) (a i : Nat) (o : Nat) (p : Itm × LAd) : World :=
  (((((((W.setCell ⟨a, i * 8, none⟩ (.int .i64 (o : Nat))).setCell ⟨a, i * 8 + 1, none⟩ (.int .i64 (p.1.wd : Nat))).setCell ⟨a, i * 8 + 2, none⟩ (.int .i64 p.1.id)).setCell ⟨a, i * 8 + 3, none⟩ (.slice p.2.A p.1.l.length p.2.c)).setCell ⟨a, i * 8 + 4, none⟩ (.bool p.1.red)).setCell ⟨a, i * 8 + 5, none⟩ (.int .i64 p.1.lbd)).setCell ⟨a, i * 8 + 6, none⟩ (.int .i64 p.1.used)).setCell ⟨a, i * 8 + 7, none⟩ (.bool p.1.dead)
theorem put8_mod (W : World) (a i o : Nat) (p : Itm × LAd) : Mod (fun k => k = a) W (put8 W a i o p) := by
  unfold put8
  refine Mod.setCell (S := fun k => k = a) (Mod.setCell (S := fun k => k = a) (Mod.setCell (S := fun k => k = a) (Mod.setCell (S := fun k => k = a) (Mod.setCell (S := fun k => k = a) (Mod.setCell (S := fun k => k = a) (Mod.setCell (S := fun k => k = a) (Mod.setCell (S := fun k => k = a) (Mod.refl _ _) ?_ _) ?_ _) ?_ _) ?_ _) ?_ _) ?_ _) ?_ _) ?_ _ <;> exact .inl rfl
theorem put8_row {W : World} {a c i : Nat} (hr : Row W a 92 (rowsD 0 z) c) (hi : i < z.length) (p : Itm × LAd) (hw : z[i].1.wd = p.1.wd) : Row (put8 W a i (sumw ((itm z).take i)) p) a 92 (rowsD 0 (z.set i p)) c := by
  have hl := rowsD_len 0 (z.take i)
  rw [List.length_take, Nat.min_eq_left (Nat.le_of_lt hi)] at hl
  have hz := rowsD_len 0 z
  have hsz : i * 8 + 7 < (rowsD 0 z).length := by rw [hz]; omega
  have h8 := set8 (A := rowsD 0 (z.take i)) (B := rowsD (sumw ((itm z).take i) + z[i].1.wd) (z.drop (i + 1))) hl (.int .i64 (sumw ((itm z).take i) : Nat)) (.int .i64 (z[i].1.wd : Nat)) (.int .i64 z[i].1.id) (.slice z[i].2.A z[i].1.l.length z[i].2.c) (.bool z[i].1.red) (.int .i64 z[i].1.lbd) (.int .i64 z[i].1.used) (.bool z[i].1.dead)
    (.int .i64 (sumw ((itm z).take i) : Nat)) (.int .i64 (p.1.wd : Nat)) (.int .i64 p.1.id) (.slice p.2.A p.1.l.length p.2.c) (.bool p.1.red) (.int .i64 p.1.lbd) (.int .i64 p.1.used) (.bool p.1.dead)
  have hs := rowsD_split hi
  unfold cellsD at hs
  rw [← hs] at h8
  rw [rows_set hi p hw]
  unfold cellsD
  rw [← h8]
  unfold put8
  refine Row.set_ (Row.set_ (Row.set_ (Row.set_ (Row.set_ (Row.set_ (Row.set_ (Row.set_ hr (i * 8) (by omega) _) (i * 8 + 1) ?_ _) (i * 8 + 2) ?_ _) (i * 8 + 3) ?_ _) (i * 8 + 4) ?_ _) (i * 8 + 5) ?_ _) (i * 8 + 6) ?_ _) (i * 8 + 7) ?_ _ <;> (simp only [List.length_set]; omega)
/-- .. and the arena in it. -/
theorem RA.put8 {a i : Nat} (h : RA w base S gd (some ⟨a, 0, none⟩) c lim z) (hi : i < z.length) (p : Itm × LAd) (hw : z[i].1.wd = p.1.wd) (hok : IOk p.1) (hl : App.Own w base 26 p.2.A p.1.l.length p.2.c (LI p.1.l)) (hfl : ∀ i, p.2.A = some ⟨i, 0, none⟩ → S i) :
    RA (Ar.put8 w a i (sumw ((itm z).take i)) p) base S gd (some ⟨a, 0, none⟩) c lim (z.set i p) ∧ Mod S w (Ar.put8 w a i (sumw ((itm z).take i)) p) := by
  have hm := put8_mod w a i (sumw ((itm z).take i)) p
  have hSa := h.fa a rfl
  have hmS : Mod S w (Ar.put8 w a i (sumw ((itm z).take i)) p) := hm.mono fun k _ e => by rw [e]; exact hSa
  have hga : gd ≠ a := fun e => (h.row.ne_blk h.blk (by decide) rfl) e.symm
  have hik : i < (itm z).length := by rw [itm_len]; exact hi
  have hsw : sumw (itm (z.set i p)) = sumw (itm z) := by rw [itm_set, sumw_set hik p.1 (by rw [itm_at hi]; exact hw)]
  obtain ⟨h1, ⟨e, _⟩ | ⟨a2, e2, h2, h3, h4, h5⟩⟩ := h.row
  · cases e
  obtain rfl : a = a2 := by injection e2 with e; injection e
  have hlit : ∀ q, App.Own w base 26 q.2.A q.1.l.length q.2.c (LI q.1.l) → App.Own (Ar.put8 w a i (sumw ((itm z).take i)) p) base 26 (q : Itm × LAd).2.A q.1.l.length q.2.c (LI q.1.l) := fun q hq => hq.mod hm (fun k _ e e2 => by
    obtain ⟨_, hb, _⟩ := h5
    exact Own.ne_blk hq hb (by decide) e e2)
  refine ⟨⟨?_, ?_, fun q hq => ?_, ?_, h.l0, by rw [hsw]; exact h.l1, h.fg, h.fa, fun q hq => ?_, h.lo, fun k hk => Nat.lt_of_lt_of_le (h.lt k hk) hm.size⟩, hmS⟩
  · rw [List.length_set, hsw]
    exact h.blk.mod hm (fun e => hga e)
  · refine ⟨by rw [rowsD_len], .inr ⟨a, rfl, h2, by rw [List.length_set]; exact h3, h4, put8_row h5 hi p hw⟩⟩
  · rcases List.mem_or_eq_of_mem_set hq with hq | rfl
    · exact hlit q (h.lits q hq)
    · exact hlit q hl
  · rw [itm_set]; exact ok_set h.ok hok
  · rcases List.mem_or_eq_of_mem_set hq with hq | rfl
    · exact h.fl q hq
    · exact hfl
def newS (S : Nat → Prop) (w w' : World) (i : Nat) : Prop := S i ∨ (w.heap.size ≤ i ∧ i < w'.heap.size)
/-- What a call leaves. -/
def RN (w w' : World) (base : Nat) (S : Nat → Prop) (gd : Nat) (lim : Int) (its : List Itm) : Prop := RX w' base (newS S w w') gd lim its ∧ Mod S w w'
theorem RA.grow {w0 : World} (h : RA w base S gd A c lim z) (hb : base ≤ w0.heap.size) : RA w base (newS S w0 w) gd A c lim z :=
  ⟨h.blk, h.row, h.lits, h.ok, h.l0, h.l1, .inl h.fg, fun i e => .inl (h.fa i e), fun p hp i e => .inl (h.fl p hp i e), fun i hi => hi.elim (h.lo i) (fun hi => Nat.le_trans hb hi.1), fun i hi => hi.elim (h.lt i) (fun hi => hi.2)⟩
theorem RN.of {w' : World} {its : List Itm} (h : RA w' base S gd A c lim z) (e : itm z = its) (hm : Mod S w w') (hb : base ≤ w.heap.size) : RN w w' base S gd lim its :=
  ⟨⟨A, c, z, e, h.grow hb⟩, hm⟩
theorem RN.drew {w' : World} {its : List Itm} (h : RN w w' base S gd lim its) : RN w w'.drew base S gd lim its :=
  ⟨h.1.below ((Below.refl _ _).drew), h.2.then_ (Mod.none_ ((Below.refl _ _).drew) _)⟩
/-- put8 with the cells written out. -/
def put8c (W : World) (a i : Nat) (v0 v1 v2 v3 v4 v5 v6 v7 : Value) : World :=
  (((((((W.setCell ⟨a, i * 8, none⟩ v0).setCell ⟨a, i * 8 + 1, none⟩ v1).setCell ⟨a, i * 8 + 2, none⟩ v2).setCell ⟨a, i * 8 + 3, none⟩ v3).setCell ⟨a, i * 8 + 4, none⟩ v4).setCell ⟨a, i * 8 + 5, none⟩ v5).setCell ⟨a, i * 8 + 6, none⟩ v6).setCell ⟨a, i * 8 + 7, none⟩ v7
set_option maxRecDepth 100000 in
set_option maxHeartbeats 4000000 in
theorem rkill_any (h : RA w base S gd A c lim z) (hbw : base ≤ w.heap.size) (r : Int) : Calls Try.prog 35 #[.pointer (some ⟨gd, 0, none⟩), .int .i64 r] w fun e w' =>
    e = .returned (.int .i64 (killM (itm z) r).1) ∧ RN w w' base S gd lim (killM (itm z) r).2 := by
  have HFD := Lib.hid (find_any h r)
  rcases fnd_z h r with ⟨h1, h2, h3⟩ | ⟨i, hi, h1, h2, h3, h4, h5⟩
  · have HE := Lib.hid (show killM (itm z) r = (91, itm z) by unfold killM; rw [h1])
    have HF := Lib.hid (RN.of (w := w) h rfl (Mod.refl _ _) hbw)
    rw [h3] at HFD
    clear h h1 h2 h3
    go_enter Try.func35, Try.ntmps35
    go_wp2_with fail
    refine HFD.out.mono ?_
    rintro e w1 ⟨rfl, rfl⟩
    go_wp2
    go_ret
    exact ⟨by rw [HE.out]; rfl, by rw [HE.out]; exact HF.out⟩
  rw [h3] at HFD
  obtain ⟨a, eA, hzc, hcl, hfz⟩ := h.cells hi
  subst eA
  have c1 : w.cell? ⟨gd, 1, none⟩ = some (.slice (some ⟨a, 0, none⟩) z.length c) := h.blk.cell 1
  have hok := h.ok z[i].1 (List.mem_map.2 ⟨z[i], List.getElem_mem hi, rfl⟩)
  have hz : z[i] ∈ z := List.getElem_mem hi
  have HE := Lib.hid (show killM (itm z) r = (0, itm (z.set i (z[i].1.kill, z[i].2))) by unfold killM; rw [h1, h2, itm_set])
  have HFN := Lib.hid (fun W (hb : Below w.heap.size w W) => show RN w (put8c W a i (.int .i64 (sumw ((itm z).take i) : Nat)) (.int .i64 (z[i].1.wd : Nat)) (.int .i64 z[i].1.id) (.slice z[i].2.A z[i].1.l.length z[i].2.c) (.bool z[i].1.red) (.int .i64 z[i].1.lbd) (.int .i64 z[i].1.used) (.bool true)).drew base S gd lim (itm (z.set i (z[i].1.kill, z[i].2))) from by
    obtain ⟨k1, k2⟩ := (h.below hb).put8 hi (z[i].1.kill, z[i].2) rfl ⟨hok.wd, hok.id, hok.l, hok.lbd, hok.used⟩ ((h.below hb).lits z[i] hz) (h.fl z[i] hz)
    have k3 := (RN.of k1 rfl ((Mod.none_ hb S).then_ k2) hbw).drew
    exact k3)
  have d0 := hcl 0 _ (by omega) rfl
  have d1 := hcl 1 _ (by omega) rfl
  have d2 := hcl 2 _ (by omega) rfl
  have d3 := hcl 3 _ (by omega) rfl
  have d4 := hcl 4 _ (by omega) rfl
  have d5 := hcl 5 _ (by omega) rfl
  have d6 := hcl 6 _ (by omega) rfl
  have d7 := hcl 7 _ (by omega) rfl
  rw [Nat.add_zero] at d0
  have HCL := Lib.hid hcl
  have HFZ := Lib.hid hfz
  have hzl := zlen_le h
  have hga := h.blk.lt
  have haa : a < w.heap.size := h.lt a (h.fa a rfl)
  clear h h1 h2 h3 h4 h5 hcl hok hfz hz
  generalize sumw ((itm z).take i) = s at *
  generalize itm (z.set i (z[i].1.kill, z[i].2)) = its' at *
  generalize z[i] = p at *
  generalize z.length = n at *
  go_enter Try.func35, Try.ntmps35
  go_wp2_with fail
  refine HFD.out.mono ?_
  rintro e w1 ⟨rfl, rfl⟩
  go_upto_region 6 with (fail)
  obtain ⟨W1, hW1⟩ : ∃ W1, W1 = w.alloc (.cells #[.int .i64 (s : Nat), .int .i64 (p.1.wd : Nat), .int .i64 p.1.id, .slice p.2.A p.1.l.length p.2.c, .bool p.1.red, .int .i64 p.1.lbd, .int .i64 p.1.used, .bool true] 92) := ⟨_, rfl⟩
  have hB1 : Below w.heap.size w W1 := by rw [hW1]; exact below_al _ _
  have HB1 := Lib.hid hB1
  have hbk : Blk W1 w.heap.size 92 #[.int .i64 (s : Nat), .int .i64 (p.1.wd : Nat), .int .i64 p.1.id, .slice p.2.A p.1.l.length p.2.c, .bool p.1.red, .int .i64 p.1.lbd, .int .i64 p.1.used, .bool true] := by rw [hW1]; exact Blk.new _ _ _
  have g1 : W1.cell? ⟨gd, 1, none⟩ = some (.slice (some ⟨a, 0, none⟩) n c) := (hB1.cell (p := ⟨gd, 1, none⟩) hga).trans c1
  have cl := fun j v hj (hv : (cellsD s p)[j]? = some v) => (hB1.cell (p := ⟨a, i * 8 + j, none⟩) haa).trans (HCL.out j v hj hv)
  have m0 := cl 0 _ (by omega) rfl
  have m1 := cl 1 _ (by omega) rfl
  have m2 := cl 2 _ (by omega) rfl
  have m3 := cl 3 _ (by omega) rfl
  have m4 := cl 4 _ (by omega) rfl
  have m5 := cl 5 _ (by omega) rfl
  have m6 := cl 6 _ (by omega) rfl
  have m7 := cl 7 _ (by omega) rfl
  rw [Nat.add_zero] at m0
  have bl := fun j v (hv : (#[.int .i64 (s : Nat), .int .i64 (p.1.wd : Nat), .int .i64 p.1.id, .slice p.2.A p.1.l.length p.2.c, .bool p.1.red, .int .i64 p.1.lbd, .int .i64 p.1.used, .bool true] : Array Value)[j]? = some v) => (show W1.cell? ⟨w.heap.size, j, none⟩ = some v from by rw [hbk.cell j]; exact hv)
  have b0 := bl 0 _ rfl
  have b1 := bl 1 _ rfl
  have b2 := bl 2 _ rfl
  have b3 := bl 3 _ rfl
  have b4 := bl 4 _ rfl
  have b5 := bl 5 _ rfl
  have b6 := bl 6 _ rfl
  have b7 := bl 7 _ rfl
  have hfz : ∀ j, W1.frozen? ⟨a, j, none⟩ = false := fun j => by
    have := HFZ.out j
    unfold World.frozen? at this ⊢
    rw [hB1.block a haa]
    exact this
  rw [show w.alloc (.cells #[.int .i64 (s : Nat), .int .i64 (p.1.wd : Nat), .int .i64 p.1.id, .slice p.2.A p.1.l.length p.2.c, .bool p.1.red, .int .i64 p.1.lbd, .int .i64 p.1.used, .bool true] 92) = W1 from hW1.symm]
  have f0 := hfz (i * 8)
  have f1 := hfz (i * 8 + 1)
  have f2 := hfz (i * 8 + 2)
  have f3 := hfz (i * 8 + 3)
  have f4 := hfz (i * 8 + 4)
  have f5 := hfz (i * 8 + 5)
  have f6 := hfz (i * 8 + 6)
  have f7 := hfz (i * 8 + 7)
  clear bl cl hfz hbk hB1 hW1 d0 d1 d2 d3 d4 d5 d6 d7 c1
  refine wp_region_still_tail 7 (by kernel_rfl) (by kernel_rfl) ?_
  change wpStill _ _ W1.drew _ _ _
  simp only [List.take_succ_cons, List.take_zero, List.drop_succ_cons, List.drop_zero]
  repeat still_step
  refine wpStill_nil ?_
  change wpList _ _ _ _ _ W1.drew
  go_wp2
  go_ret
  rw [HE.out]
  exact ⟨rfl, HFN.out W1 HB1.out⟩
set_option maxRecDepth 100000 in
set_option maxHeartbeats 4000000 in
theorem rmark_any (h : RA w base S gd A c lim z) (hbw : base ≤ w.heap.size) (r : Int) (l u : Int) : Calls Try.prog 38 #[.pointer (some ⟨gd, 0, none⟩), .int .i64 r, .int .i64 l, .int .i64 u] w fun e w' =>
    e = .returned (.int .i64 (markM (itm z) r l u).1) ∧ RN w w' base S gd lim (markM (itm z) r l u).2 := by
  have HFD := Lib.hid (find_any h r)
  rcases fnd_z h r with ⟨h1, h2, h3⟩ | ⟨i, hi, h1, h2, h3, h4, h5⟩
  · have HE := Lib.hid (show markM (itm z) r l u = (91, itm z) by unfold markM; rw [h1])
    have HF := Lib.hid (RN.of (w := w) h rfl (Mod.refl _ _) hbw)
    rw [h3] at HFD
    clear h h1 h2 h3
    go_enter Try.func38, Try.ntmps38
    go_wp2_with fail
    refine HFD.out.mono ?_
    rintro e w1 ⟨rfl, rfl⟩
    go_wp2
    go_ret
    exact ⟨by rw [HE.out]; rfl, by rw [HE.out]; exact HF.out⟩
  rw [h3] at HFD
  obtain ⟨a, eA, hzc, hcl, hfz⟩ := h.cells hi
  subst eA
  have c1 : w.cell? ⟨gd, 1, none⟩ = some (.slice (some ⟨a, 0, none⟩) z.length c) := h.blk.cell 1
  have hok := h.ok z[i].1 (List.mem_map.2 ⟨z[i], List.getElem_mem hi, rfl⟩)
  have hz : z[i] ∈ z := List.getElem_mem hi
  have HSL := Lib.hid (small_any l w)
  have HSU := Lib.hid (small_any u w)
  by_cases hb1 : smallB l = false
  · have HE := Lib.hid (show markM (itm z) r l u = (2, itm z) by
      unfold markM; rw [h1]
      refine if_pos ?_
      have := of_decide_eq_false hb1
      omega)
    have HF := Lib.hid (RN.of (w := w) h rfl (Mod.refl _ _) hbw)
    rw [hb1] at HSL
    clear h h1 h2 h3 h4 h5 hcl hfz hok hz c1 hb1
    go_enter Try.func38, Try.ntmps38
    go_wp2_with fail
    refine HFD.out.mono ?_
    rintro e w1 ⟨rfl, rfl⟩
    go_wp2_with fail
    refine HSL.out.mono ?_
    rintro e w1 ⟨rfl, rfl⟩
    go_wp2
    go_ret
    exact ⟨by rw [HE.out]; rfl, by rw [HE.out]; exact HF.out⟩
  have hb1' : smallB l = true := by simpa using hb1
  rw [hb1'] at HSL
  by_cases hb2 : smallB u = false
  · have HE := Lib.hid (show markM (itm z) r l u = (2, itm z) by
      unfold markM; rw [h1]
      refine if_pos ?_
      have := of_decide_eq_false hb2
      omega)
    have HF := Lib.hid (RN.of (w := w) h rfl (Mod.refl _ _) hbw)
    rw [hb2] at HSU
    clear h h1 h2 h3 h4 h5 hcl hfz hok hz c1 hb1 hb2 hb1'
    go_enter Try.func38, Try.ntmps38
    go_wp2_with fail
    refine HFD.out.mono ?_
    rintro e w1 ⟨rfl, rfl⟩
    go_wp2_with fail
    refine HSL.out.mono ?_
    rintro e w1 ⟨rfl, rfl⟩
    go_wp2_with fail
    refine HSU.out.mono ?_
    rintro e w1 ⟨rfl, rfl⟩
    go_wp2
    go_ret
    exact ⟨by rw [HE.out]; rfl, by rw [HE.out]; exact HF.out⟩
  have hb2' : smallB u = true := by simpa using hb2
  rw [hb2'] at HSU
  have hl : 0 ≤ l ∧ l ≤ 65535 := of_decide_eq_true hb1'
  have hu : 0 ≤ u ∧ u ≤ 65535 := of_decide_eq_true hb2'
  have HE := Lib.hid (show markM (itm z) r l u = (0, itm (z.set i (z[i].1.mark l u, z[i].2))) by unfold markM; rw [h1, h2, itm_set]; exact if_neg (by omega))
  clear hb1 hb2 hb1' hb2'
  have HFN := Lib.hid (fun W (hb : Below w.heap.size w W) => show RN w (put8c W a i (.int .i64 (sumw ((itm z).take i) : Nat)) (.int .i64 (z[i].1.wd : Nat)) (.int .i64 z[i].1.id) (.slice z[i].2.A z[i].1.l.length z[i].2.c) (.bool z[i].1.red) (.int .i64 l) (.int .i64 u) (.bool z[i].1.dead)).drew base S gd lim (itm (z.set i (z[i].1.mark l u, z[i].2))) from by
    obtain ⟨k1, k2⟩ := (h.below hb).put8 hi (z[i].1.mark l u, z[i].2) rfl ⟨hok.wd, hok.id, hok.l, hl, hu⟩ ((h.below hb).lits z[i] hz) (h.fl z[i] hz)
    have k3 := (RN.of k1 rfl ((Mod.none_ hb S).then_ k2) hbw).drew
    exact k3)
  have d0 := hcl 0 _ (by omega) rfl
  have d1 := hcl 1 _ (by omega) rfl
  have d2 := hcl 2 _ (by omega) rfl
  have d3 := hcl 3 _ (by omega) rfl
  have d4 := hcl 4 _ (by omega) rfl
  have d5 := hcl 5 _ (by omega) rfl
  have d6 := hcl 6 _ (by omega) rfl
  have d7 := hcl 7 _ (by omega) rfl
  rw [Nat.add_zero] at d0
  have HCL := Lib.hid hcl
  have HFZ := Lib.hid hfz
  have hzl := zlen_le h
  have hga := h.blk.lt
  have haa : a < w.heap.size := h.lt a (h.fa a rfl)
  clear h h1 h2 h3 h4 h5 hcl hok hfz hz
  generalize sumw ((itm z).take i) = s at *
  generalize itm (z.set i (z[i].1.mark l u, z[i].2)) = its' at *
  generalize z[i] = p at *
  generalize z.length = n at *
  go_enter Try.func38, Try.ntmps38
  go_wp2_with fail
  refine HFD.out.mono ?_
  rintro e w1 ⟨rfl, rfl⟩
  go_wp2_with fail
  refine HSL.out.mono ?_
  rintro e w1 ⟨rfl, rfl⟩
  go_wp2_with fail
  refine HSU.out.mono ?_
  rintro e w1 ⟨rfl, rfl⟩
  go_upto_region 9 with (fail)
  obtain ⟨W1, hW1⟩ : ∃ W1, W1 = w.alloc (.cells #[.int .i64 (s : Nat), .int .i64 (p.1.wd : Nat), .int .i64 p.1.id, .slice p.2.A p.1.l.length p.2.c, .bool p.1.red, .int .i64 l, .int .i64 u, .bool p.1.dead] 92) := ⟨_, rfl⟩
  have hB1 : Below w.heap.size w W1 := by rw [hW1]; exact below_al _ _
  have HB1 := Lib.hid hB1
  have hbk : Blk W1 w.heap.size 92 #[.int .i64 (s : Nat), .int .i64 (p.1.wd : Nat), .int .i64 p.1.id, .slice p.2.A p.1.l.length p.2.c, .bool p.1.red, .int .i64 l, .int .i64 u, .bool p.1.dead] := by rw [hW1]; exact Blk.new _ _ _
  have g1 : W1.cell? ⟨gd, 1, none⟩ = some (.slice (some ⟨a, 0, none⟩) n c) := (hB1.cell (p := ⟨gd, 1, none⟩) hga).trans c1
  have cl := fun j v hj (hv : (cellsD s p)[j]? = some v) => (hB1.cell (p := ⟨a, i * 8 + j, none⟩) haa).trans (HCL.out j v hj hv)
  have m0 := cl 0 _ (by omega) rfl
  have m1 := cl 1 _ (by omega) rfl
  have m2 := cl 2 _ (by omega) rfl
  have m3 := cl 3 _ (by omega) rfl
  have m4 := cl 4 _ (by omega) rfl
  have m5 := cl 5 _ (by omega) rfl
  have m6 := cl 6 _ (by omega) rfl
  have m7 := cl 7 _ (by omega) rfl
  rw [Nat.add_zero] at m0
  have bl := fun j v (hv : (#[.int .i64 (s : Nat), .int .i64 (p.1.wd : Nat), .int .i64 p.1.id, .slice p.2.A p.1.l.length p.2.c, .bool p.1.red, .int .i64 l, .int .i64 u, .bool p.1.dead] : Array Value)[j]? = some v) => (show W1.cell? ⟨w.heap.size, j, none⟩ = some v from by rw [hbk.cell j]; exact hv)
  have b0 := bl 0 _ rfl
  have b1 := bl 1 _ rfl
  have b2 := bl 2 _ rfl
  have b3 := bl 3 _ rfl
  have b4 := bl 4 _ rfl
  have b5 := bl 5 _ rfl
  have b6 := bl 6 _ rfl
  have b7 := bl 7 _ rfl
  have hfz : ∀ j, W1.frozen? ⟨a, j, none⟩ = false := fun j => by
    have := HFZ.out j
    unfold World.frozen? at this ⊢
    rw [hB1.block a haa]
    exact this
  rw [show w.alloc (.cells #[.int .i64 (s : Nat), .int .i64 (p.1.wd : Nat), .int .i64 p.1.id, .slice p.2.A p.1.l.length p.2.c, .bool p.1.red, .int .i64 l, .int .i64 u, .bool p.1.dead] 92) = W1 from hW1.symm]
  have f0 := hfz (i * 8)
  have f1 := hfz (i * 8 + 1)
  have f2 := hfz (i * 8 + 2)
  have f3 := hfz (i * 8 + 3)
  have f4 := hfz (i * 8 + 4)
  have f5 := hfz (i * 8 + 5)
  have f6 := hfz (i * 8 + 6)
  have f7 := hfz (i * 8 + 7)
  clear bl cl hfz hbk hB1 hW1 d0 d1 d2 d3 d4 d5 d6 d7 c1
  refine wp_region_still_tail 7 (by kernel_rfl) (by kernel_rfl) ?_
  change wpStill _ _ W1.drew _ _ _
  simp only [List.take_succ_cons, List.take_zero, List.drop_succ_cons, List.drop_zero]
  repeat still_step
  refine wpStill_nil ?_
  change wpList _ _ _ _ _ W1.drew
  go_wp2
  go_ret
  rw [HE.out]
  exact ⟨rfl, HFN.out W1 HB1.out⟩
set_option maxRecDepth 100000 in
set_option maxHeartbeats 4000000 in
theorem rshrink_any (h : RA w base S gd A c lim z) (hbw : base ≤ w.heap.size) (r : Int) (m : Int) (hm : inI m) : Calls Try.prog 36 #[.pointer (some ⟨gd, 0, none⟩), .int .i64 r, .int .i64 m] w fun e w' =>
    e = .returned (.int .i64 (shrinkM (itm z) r m).1) ∧ RN w w' base S gd lim (shrinkM (itm z) r m).2 := by
  have HFD := Lib.hid (find_any h r)
  rcases fnd_z h r with ⟨h1, h2, h3⟩ | ⟨i, hi, h1, h2, h3, h4, h5⟩
  · have HE := Lib.hid (show shrinkM (itm z) r m = (91, itm z) by unfold shrinkM; rw [h1])
    have HF := Lib.hid (RN.of (w := w) h rfl (Mod.refl _ _) hbw)
    rw [h3] at HFD
    clear h h1 h2 h3
    go_enter Try.func36, Try.ntmps36
    go_wp2_with fail
    refine HFD.out.mono ?_
    rintro e w1 ⟨rfl, rfl⟩
    go_wp2
    go_ret
    exact ⟨by rw [HE.out]; rfl, by rw [HE.out]; exact HF.out⟩
  rw [h3] at HFD
  obtain ⟨a, eA, hzc, hcl, hfz⟩ := h.cells hi
  subst eA
  have c1 : w.cell? ⟨gd, 1, none⟩ = some (.slice (some ⟨a, 0, none⟩) z.length c) := h.blk.cell 1
  have hok := h.ok z[i].1 (List.mem_map.2 ⟨z[i], List.getElem_mem hi, rfl⟩)
  have hz : z[i] ∈ z := List.getElem_mem hi
  by_cases hb1 : m < 0
  · have HE := Lib.hid (show shrinkM (itm z) r m = (2, itm z) by unfold shrinkM; rw [h1, h2]; exact if_pos (.inl hb1))
    have hga := h.blk.lt
    have HF := Lib.hid (fun W (hb : Below w.heap.size w W) => RN.of (w := w) (h.below hb) rfl (Mod.none_ hb S) hbw)
    have d0 := hcl 0 _ (by omega) rfl
    have d1 := hcl 1 _ (by omega) rfl
    have d2 := hcl 2 _ (by omega) rfl
    have d3 := hcl 3 _ (by omega) rfl
    have d4 := hcl 4 _ (by omega) rfl
    have d5 := hcl 5 _ (by omega) rfl
    have d6 := hcl 6 _ (by omega) rfl
    have d7 := hcl 7 _ (by omega) rfl
    rw [Nat.add_zero] at d0
    have hzl := zlen_le h
    clear h h1 h2 h3 h4 h5 hcl hok hfz hz
    generalize z[i] = p at *
    generalize sumw ((itm z).take i) = s at *
    generalize z.length = n at *
    generalize p.1.l.length = L at *
    go_enter Try.func36, Try.ntmps36
    go_wp2_with fail
    refine HFD.out.mono ?_
    rintro e w1 ⟨rfl, rfl⟩
    go_wp2
    go_ret
    exact ⟨by rw [HE.out]; rfl, by rw [HE.out]; exact HF.out _ (below_al _ _)⟩
  by_cases hb2 : (z[i].1.l.length : Int) < m
  · have HE := Lib.hid (show shrinkM (itm z) r m = (2, itm z) by unfold shrinkM; rw [h1, h2]; exact if_pos (.inr hb2))
    have hga := h.blk.lt
    have HF := Lib.hid (fun W (hb : Below w.heap.size w W) => RN.of (w := w) (h.below hb) rfl (Mod.none_ hb S) hbw)
    have d0 := hcl 0 _ (by omega) rfl
    have d1 := hcl 1 _ (by omega) rfl
    have d2 := hcl 2 _ (by omega) rfl
    have d3 := hcl 3 _ (by omega) rfl
    have d4 := hcl 4 _ (by omega) rfl
    have d5 := hcl 5 _ (by omega) rfl
    have d6 := hcl 6 _ (by omega) rfl
    have d7 := hcl 7 _ (by omega) rfl
    rw [Nat.add_zero] at d0
    have hzl := zlen_le h
    clear h h1 h2 h3 h4 h5 hcl hok hfz hz
    generalize z[i] = p at *
    generalize sumw ((itm z).take i) = s at *
    generalize z.length = n at *
    generalize p.1.l.length = L at *
    go_enter Try.func36, Try.ntmps36
    go_wp2_with fail
    refine HFD.out.mono ?_
    rintro e w1 ⟨rfl, rfl⟩
    go_wp2
    go_ret
    exact ⟨by rw [HE.out]; rfl, by rw [HE.out]; exact HF.out _ (below_al _ _)⟩
  have HE := Lib.hid (show shrinkM (itm z) r m = (0, itm (z.set i (z[i].1.lits (z[i].1.l.take m.toNat), z[i].2))) by unfold shrinkM; rw [h1, h2, itm_set]; exact if_neg (by omega))
  have hml : m.toNat ≤ z[i].1.l.length := by omega
  have hlen : (z[i].1.l.take m.toNat).length = m.toNat := by rw [List.length_take]; omega
  have HTK := Lib.hid (fun W (hb : Below w.heap.size w W) => show App.Own W base 26 z[i].2.A (z[i].1.l.take m.toNat).length z[i].2.c (LI (z[i].1.l.take m.toNat)) from by
    obtain ⟨e0, ⟨e1, e2, e3⟩ | ⟨g, e1, e2, e3, e4⟩⟩ := (h.below hb).lits z[i] hz
    · have e5 : z[i].1.l = [] := by unfold LI at e3; exact List.map_eq_nil_iff.1 e3
      rw [e5]
      exact ⟨by simp [LI], .inl ⟨e1, e2, by simp [LI]⟩⟩
    · refine ⟨by simp [LI], .inr ⟨g, e1, e2, e3, ?_⟩⟩
      have := Row.take_ e4 m.toNat
      unfold LI at this ⊢
      rwa [← List.map_take] at this)
  have hcap : z[i].1.l.length ≤ z[i].2.c ∧ z[i].2.c ≤ maxLen ∧ (z[i].2.A = none → z[i].2.c = 0) := by
    obtain ⟨e0, ⟨e1, e2, e3⟩ | ⟨g, e1, e2, e3, e4⟩⟩ := h.lits z[i] hz
    · have e5 : z[i].1.l = [] := by unfold LI at e3; exact List.map_eq_nil_iff.1 e3
      rw [e5, e2]; exact ⟨Nat.le_refl _, Nat.zero_le _, fun _ => rfl⟩
    · have := e4.le
      unfold LI at this
      rw [List.length_map] at this
      exact ⟨this, e3, fun e => by rw [e1] at e; cases e⟩
  have HFN := Lib.hid (fun W (hb : Below w.heap.size w W) => show RN w (put8c W a i (.int .i64 (sumw ((itm z).take i) : Nat)) (.int .i64 (z[i].1.wd : Nat)) (.int .i64 z[i].1.id) (.slice z[i].2.A m.toNat z[i].2.c) (.bool z[i].1.red) (.int .i64 z[i].1.lbd) (.int .i64 z[i].1.used) (.bool z[i].1.dead)).drew base S gd lim (itm (z.set i (z[i].1.lits (z[i].1.l.take m.toNat), z[i].2))) from by
    obtain ⟨k1, k2⟩ := (h.below hb).put8 hi (z[i].1.lits (z[i].1.l.take m.toNat), z[i].2) rfl ⟨by show 4 + (z[i].1.l.take m.toNat).length ≤ z[i].1.wd; have := hok.wd; omega, hok.id, fun y hy => hok.l y (List.mem_of_mem_take hy), hok.lbd, hok.used⟩ (HTK.out W hb) (h.fl z[i] hz)
    have k3 := (RN.of k1 rfl ((Mod.none_ hb S).then_ k2) hbw).drew
    have k4 : put8 W a i (sumw ((itm z).take i)) (z[i].1.lits (z[i].1.l.take m.toNat), z[i].2) = put8c W a i (.int .i64 (sumw ((itm z).take i) : Nat)) (.int .i64 (z[i].1.wd : Nat)) (.int .i64 z[i].1.id) (.slice z[i].2.A (z[i].1.l.take m.toNat).length z[i].2.c) (.bool z[i].1.red) (.int .i64 z[i].1.lbd) (.int .i64 z[i].1.used) (.bool z[i].1.dead) := rfl
    rw [k4, hlen] at k3
    exact k3)
  have d0 := hcl 0 _ (by omega) rfl
  have d1 := hcl 1 _ (by omega) rfl
  have d2 := hcl 2 _ (by omega) rfl
  have d3 := hcl 3 _ (by omega) rfl
  have d4 := hcl 4 _ (by omega) rfl
  have d5 := hcl 5 _ (by omega) rfl
  have d6 := hcl 6 _ (by omega) rfl
  have d7 := hcl 7 _ (by omega) rfl
  rw [Nat.add_zero] at d0
  have HCL := Lib.hid hcl
  have HFZ := Lib.hid hfz
  have hzl := zlen_le h
  have hga := h.blk.lt
  have haa : a < w.heap.size := h.lt a (h.fa a rfl)
  obtain ⟨hc1, hc2, hc3⟩ := hcap
  unfold maxLen at hc2
  clear h h1 h2 h3 h4 h5 hcl hok hfz hz
  generalize sumw ((itm z).take i) = s at *
  generalize itm (z.set i (z[i].1.lits (z[i].1.l.take m.toNat), z[i].2)) = its' at *
  generalize z[i] = p at *
  generalize z.length = n at *
  go_enter Try.func36, Try.ntmps36
  go_wp2_with fail
  refine HFD.out.mono ?_
  rintro e w1 ⟨rfl, rfl⟩
  go_upto_region 8 with (fail)
  obtain ⟨W1, hW1⟩ : ∃ W1, W1 = w.alloc (.cells #[.int .i64 (s : Nat), .int .i64 (p.1.wd : Nat), .int .i64 p.1.id, .slice p.2.A m.toNat p.2.c, .bool p.1.red, .int .i64 p.1.lbd, .int .i64 p.1.used, .bool p.1.dead] 92) := ⟨_, rfl⟩
  have hB1 : Below w.heap.size w W1 := by rw [hW1]; exact below_al _ _
  have HB1 := Lib.hid hB1
  have hbk : Blk W1 w.heap.size 92 #[.int .i64 (s : Nat), .int .i64 (p.1.wd : Nat), .int .i64 p.1.id, .slice p.2.A m.toNat p.2.c, .bool p.1.red, .int .i64 p.1.lbd, .int .i64 p.1.used, .bool p.1.dead] := by rw [hW1]; exact Blk.new _ _ _
  have g1 : W1.cell? ⟨gd, 1, none⟩ = some (.slice (some ⟨a, 0, none⟩) n c) := (hB1.cell (p := ⟨gd, 1, none⟩) hga).trans c1
  have cl := fun j v hj (hv : (cellsD s p)[j]? = some v) => (hB1.cell (p := ⟨a, i * 8 + j, none⟩) haa).trans (HCL.out j v hj hv)
  have m0 := cl 0 _ (by omega) rfl
  have m1 := cl 1 _ (by omega) rfl
  have m2 := cl 2 _ (by omega) rfl
  have m3 := cl 3 _ (by omega) rfl
  have m4 := cl 4 _ (by omega) rfl
  have m5 := cl 5 _ (by omega) rfl
  have m6 := cl 6 _ (by omega) rfl
  have m7 := cl 7 _ (by omega) rfl
  rw [Nat.add_zero] at m0
  have bl := fun j v (hv : (#[.int .i64 (s : Nat), .int .i64 (p.1.wd : Nat), .int .i64 p.1.id, .slice p.2.A m.toNat p.2.c, .bool p.1.red, .int .i64 p.1.lbd, .int .i64 p.1.used, .bool p.1.dead] : Array Value)[j]? = some v) => (show W1.cell? ⟨w.heap.size, j, none⟩ = some v from by rw [hbk.cell j]; exact hv)
  have b0 := bl 0 _ rfl
  have b1 := bl 1 _ rfl
  have b2 := bl 2 _ rfl
  have b3 := bl 3 _ rfl
  have b4 := bl 4 _ rfl
  have b5 := bl 5 _ rfl
  have b6 := bl 6 _ rfl
  have b7 := bl 7 _ rfl
  have hfz : ∀ j, W1.frozen? ⟨a, j, none⟩ = false := fun j => by
    have := HFZ.out j
    unfold World.frozen? at this ⊢
    rw [hB1.block a haa]
    exact this
  rw [show w.alloc (.cells #[.int .i64 (s : Nat), .int .i64 (p.1.wd : Nat), .int .i64 p.1.id, .slice p.2.A m.toNat p.2.c, .bool p.1.red, .int .i64 p.1.lbd, .int .i64 p.1.used, .bool p.1.dead] 92) = W1 from hW1.symm]
  have f0 := hfz (i * 8)
  have f1 := hfz (i * 8 + 1)
  have f2 := hfz (i * 8 + 2)
  have f3 := hfz (i * 8 + 3)
  have f4 := hfz (i * 8 + 4)
  have f5 := hfz (i * 8 + 5)
  have f6 := hfz (i * 8 + 6)
  have f7 := hfz (i * 8 + 7)
  clear bl cl hfz hbk hB1 hW1 d0 d1 d2 d3 d4 d5 d6 d7 c1
  refine wp_region_still_tail 7 (by kernel_rfl) (by kernel_rfl) ?_
  change wpStill _ _ W1.drew _ _ _
  simp only [List.take_succ_cons, List.take_zero, List.drop_succ_cons, List.drop_zero]
  repeat still_step
  refine wpStill_nil ?_
  change wpList _ _ _ _ _ W1.drew
  go_wp2
  go_ret
  rw [HE.out]
  exact ⟨rfl, HFN.out W1 HB1.out⟩
end
end Go.Proofs.Ytenadnmglhghiaa.Ar
