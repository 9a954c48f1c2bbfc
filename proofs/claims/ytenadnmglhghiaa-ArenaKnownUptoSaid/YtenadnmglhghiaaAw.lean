/- The document's arena: Words, Get. Conditions: the memory. -/
import Derived.Test.YtenadnmglhghiaaAv
namespace Go.Proofs.Ytenadnmglhghiaa.Ar
open Go.RowKit Go.Proofs.Ytenadnmglhghiaa.Mem Go.Proofs.Ytenadnmglhghiaa.Sl Go.Shelf
open Go.Proofs.Ytenadnmglhghiaa.FnL (enc_at below_then)
set_option linter.unusedVariables false

section
variable {w : World} {base gd c : Nat} {S : Nat → Prop} {A : Option Addr} {lim : Int} {z : List (Itm × LAd)}
set_option maxRecDepth 100000 in
set_option maxHeartbeats 1000000 in
theorem rwords_any (h : RA w base S gd A c lim z) : Calls Try.prog 41 #[.pointer (some ⟨gd, 0, none⟩)] w fun e w' => e = .returned (.tuple #[.int .i64 (sumw (itm z) : Nat), .int .i64 (waste (itm z) : Nat)]) ∧ Below w.heap.size w w' := by
  have H := Lib.hid h
  have hzl := zlen_le h
  have HSW := Lib.hid (show sumw (itm z) ≤ 268435456 from by have := h.l0; have := h.l1; omega)
  clear h
  go_enter Try.func41, Try.ntmps41
  go_wp2_with fail
  go_loopw [4, 5] (fun t i wr => ∃ (k : Nat), k ≤ z.length ∧ i = .int .i64 k ∧ t = .int .i64 (waste ((itm z).take k) : Nat) ∧ Below w.heap.size w wr) (fun _ i _ => z.length - (intOf i).toNat)
  case atStart => exact ⟨0, Nat.zero_le _, rfl, rfl, Below.refl _ _⟩
  case round =>
    obtain ⟨k, hk, rfl, rfl, hb⟩ := hrel
    have HB := Lib.hid hb
    have HA := Lib.hid (H.out.below hb)
    clear hb
    have c1 : wr.cell? ⟨gd, 1, none⟩ = some (.slice A z.length c) := HA.out.blk.cell 1
    by_cases hlt : k < z.length
    · obtain ⟨a, eA, _, hcl, _⟩ := HA.out.cells hlt
      have d0 : wr.cell? ⟨a, k * 8, none⟩ = some (.int .i64 (sumw ((itm z).take k) : Nat)) := hcl 0 _ (by omega) rfl
      have d1 := hcl 1 _ (by omega) rfl
      have d2 := hcl 2 _ (by omega) rfl
      have d3 := hcl 3 _ (by omega) rfl
      have d4 := hcl 4 _ (by omega) rfl
      have d5 := hcl 5 _ (by omega) rfl
      have d6 := hcl 6 _ (by omega) rfl
      have d7 := hcl 7 _ (by omega) rfl
      have hk' : k < (itm z).length := by rw [itm_len]; exact hlt
      have hw : waste ((itm z).take (k + 1)) = waste ((itm z).take k) + wst z[k].1 := by
        rw [List.take_succ_eq_append_getElem hk', waste_append, waste_one, itm_at hlt]
      have hwl : waste ((itm z).take (k + 1)) ≤ 268435456 := by
        have h1 := waste_le (its := (itm z).take (k + 1)) (fun x hx => H.out.ok x (List.mem_of_mem_take hx))
        have h2 : sumw (itm z) = sumw ((itm z).take (k + 1)) + sumw ((itm z).drop (k + 1)) := by rw [← sumw_append, List.take_append_drop]
        have := HSW.out
        omega
      have hok := H.out.ok z[k].1 (List.mem_map.2 ⟨z[k], List.getElem_mem hlt, rfl⟩)
      have hwd : 4 + z[k].1.l.length ≤ z[k].1.wd := hok.wd
      have hwd2 : z[k].1.wd ≤ 268435456 := by
        have h2 : sumw (itm z) = sumw ((itm z).take k) + (z[k].1.wd + sumw ((itm z).drop (k + 1))) := by
          conv => lhs; rw [← List.take_append_drop k (itm z), List.drop_eq_getElem_cons hk', sumw_append, sumw_cons, itm_at hlt]
        have := HSW.out
        omega
      rw [hw] at hwl
      have HNX := Lib.hid hw
      subst eA
      generalize sumw ((itm z).take k) = s at *
      generalize waste ((itm z).take k) = ws at *
      generalize z[k] = p at *
      clear hcl hk' hok hw
      rcases hd : p.1.dead with _ | _
      · have HE := Lib.hid (show wst p.1 = p.1.wd - 4 - p.1.l.length by unfold wst; rw [hd]; rfl)
        rw [HE.out] at hwl
        rw [hd] at d7
        clear hd
        go_wp2
        go_roundw
        case rel => exact ⟨k + 1, by omega, by go_num, by rw [HNX.out, HE.out]; go_num, HB.out.alloc HB.out.size _⟩
        case measure => simp [intOf]; omega
      · have HE := Lib.hid (show wst p.1 = p.1.wd by unfold wst; rw [hd]; rfl)
        rw [HE.out] at hwl
        rw [hd] at d7
        clear hd
        go_wp2
        go_roundw
        case rel => exact ⟨k + 1, by omega, by go_num, by rw [HNX.out, HE.out]; go_num, HB.out.alloc HB.out.size _⟩
        case measure => simp [intOf]; omega
    · have HE := Lib.hid (show (itm z).take k = itm z from List.take_of_length_le (by rw [itm_len]; omega))
      have c2 : wr.cell? ⟨gd, 2, none⟩ = some (.int .i64 (sumw (itm z) : Nat)) := HA.out.blk.cell 2
      go_wp2
      go_ret2
      exact ⟨by rw [HE.out]; rfl, HB.out⟩
end
theorem blk8 {W : World} {b : Nat} {t : TypeId} {x0 x1 x2 x3 x4 x5 x6 x7 : Value} (h : Blk W b t #[x0, x1, x2, x3, x4, x5, x6, x7]) (v0 v1 v2 v3 v4 v5 v6 v7 : Value) :
    Blk ((((((((W.setCell ⟨b, 0, none⟩ v0).setCell ⟨b, 1, none⟩ v1).setCell ⟨b, 2, none⟩ v2).setCell ⟨b, 3, none⟩ v3).setCell ⟨b, 4, none⟩ v4).setCell ⟨b, 5, none⟩ v5).setCell ⟨b, 6, none⟩ v6).setCell ⟨b, 7, none⟩ v7) b t #[v0, v1, v2, v3, v4, v5, v6, v7] := by
  have h0 : Blk _ b t #[v0, x1, x2, x3, x4, x5, x6, x7] := Blk.set_ h 0 v0
  have h1 : Blk _ b t #[v0, v1, x2, x3, x4, x5, x6, x7] := Blk.set_ h0 1 v1
  have h2 : Blk _ b t #[v0, v1, v2, x3, x4, x5, x6, x7] := Blk.set_ h1 2 v2
  have h3 : Blk _ b t #[v0, v1, v2, v3, x4, x5, x6, x7] := Blk.set_ h2 3 v3
  have h4 : Blk _ b t #[v0, v1, v2, v3, v4, x5, x6, x7] := Blk.set_ h3 4 v4
  have h5 : Blk _ b t #[v0, v1, v2, v3, v4, v5, x6, x7] := Blk.set_ h4 5 v5
  have h6 : Blk _ b t #[v0, v1, v2, v3, v4, v5, v6, x7] := Blk.set_ h5 6 v6
  have h7 : Blk _ b t #[v0, v1, v2, v3, v4, v5, v6, v7] := Blk.set_ h6 7 v7
  exact h7
theorem below8 {B : Nat} {w W : World} {b : Nat} (h : Below B w W) (hb : B ≤ b) (v0 v1 v2 v3 v4 v5 v6 v7 : Value) :
    Below B w ((((((((W.setCell ⟨b, 0, none⟩ v0).setCell ⟨b, 1, none⟩ v1).setCell ⟨b, 2, none⟩ v2).setCell ⟨b, 3, none⟩ v3).setCell ⟨b, 4, none⟩ v4).setCell ⟨b, 5, none⟩ v5).setCell ⟨b, 6, none⟩ v6).setCell ⟨b, 7, none⟩ v7) :=
  (((((((h.setCell (p := ⟨b, 0, none⟩) hb v0).setCell (p := ⟨b, 1, none⟩) hb v1).setCell (p := ⟨b, 2, none⟩) hb v2).setCell (p := ⟨b, 3, none⟩) hb v3).setCell (p := ⟨b, 4, none⟩) hb v4).setCell (p := ⟨b, 5, none⟩) hb v5).setCell (p := ⟨b, 6, none⟩) hb v6).setCell (p := ⟨b, 7, none⟩) hb v7
section
variable {w : World} {base gd c : Nat} {S : Nat → Prop} {A : Option Addr} {lim : Int} {z : List (Itm × LAd)}
/-- What a place's clause is, as told by the document. -/
def RItm (w : World) (base : Nat) (x : Itm) (v : Value) : Prop := ∃ (o : Nat) (A' : Option Addr) (c' : Nat), v = .agg #[.int .i64 (o : Nat), .int .i64 (x.wd : Nat), .int .i64 x.id, .slice A' x.l.length c', .bool x.red, .int .i64 x.lbd, .int .i64 x.used, .bool x.dead] ∧ App.Own w base 26 A' x.l.length c' (LI x.l)
set_option maxRecDepth 100000 in
set_option maxHeartbeats 1000000 in
theorem rget_any (h : RA w base S gd A c lim z) (r : Int) : Calls Try.prog 49 #[.pointer (some ⟨gd, 0, none⟩), .int .i64 r] w fun e w' => ∃ v, e = .returned v ∧ RItm w' base (get (itm z) r) v ∧ Below w.heap.size w w' := by
  have HFD := Lib.hid (fun W (hb : Below w.heap.size w W) => find_any (h.below hb) r)
  rcases fnd_z h r with ⟨h1, h2, h3⟩ | ⟨i, hi, h1, h2, h3, h4, h5⟩
  · rw [h3] at HFD
    rw [h2]
    have HF := Lib.hid (fun W => show RItm W base zeroItm (.agg #[.int .i64 (0 : Nat), .int .i64 (0 : Nat), .int .i64 0, .slice none 0 0, .bool false, .int .i64 0, .int .i64 0, .bool false]) from ⟨0, none, 0, rfl, App.Own.nil _ _ _⟩)
    clear h h1 h2 h3
    go_enter Try.func49, Try.ntmps49
    go_wp2_with fail
    refine (HFD.out _ (below_al _ _)).mono ?_
    rintro e w1 ⟨rfl, rfl⟩
    go_wp2
    refine bodyPost_ret (results_cell_row (ty := 92) rfl _ _ w.heap.size 92 #[.int .i64 0, .int .i64 0, .int .i64 0, .slice none 0 0, .bool false, .int .i64 0, .int .i64 0, .bool false] (0, 0) _ rfl (Blk.new _ _ _) Try.underlying92 rfl (by kernel_rfl)) rfl ?_
    exact ⟨_, rfl, HF.out _, below_al _ _⟩
  rw [h3] at HFD
  obtain ⟨a, eA, hzc, hcl, hfz⟩ := h.cells hi
  subst eA
  have hz : z[i] ∈ z := List.getElem_mem hi
  have HFN := Lib.hid (fun W (hb : Below w.heap.size w W) => show RItm W base (get (itm z) r) (.agg #[.int .i64 (sumw ((itm z).take i) : Nat), .int .i64 (z[i].1.wd : Nat), .int .i64 z[i].1.id, .slice z[i].2.A z[i].1.l.length z[i].2.c, .bool z[i].1.red, .int .i64 z[i].1.lbd, .int .i64 z[i].1.used, .bool z[i].1.dead]) from by
    rw [h2]
    exact ⟨_, _, _, rfl, (h.below hb).lits z[i] hz⟩)
  have hga := h.blk.lt
  have haa : a < w.heap.size := h.lt a (h.fa a rfl)
  obtain ⟨W1, hW1⟩ : ∃ W1, W1 = w.alloc (.cells #[Value.int IntKind.i64 0, Value.int IntKind.i64 0, Value.int IntKind.i64 0, Value.slice none 0 0, Value.bool false, Value.int IntKind.i64 0, Value.int IntKind.i64 0, Value.bool false] 92) := ⟨_, rfl⟩
  have hB1 : Below w.heap.size w W1 := by rw [hW1]; exact below_al _ _
  have HB1 := Lib.hid hB1
  have HBK := Lib.hid (show Blk W1 w.heap.size 92 #[Value.int IntKind.i64 0, Value.int IntKind.i64 0, Value.int IntKind.i64 0, Value.slice none 0 0, Value.bool false, Value.int IntKind.i64 0, Value.int IntKind.i64 0, Value.bool false] from by rw [hW1]; exact Blk.new _ _ _)
  have c1 : W1.cell? ⟨gd, 1, none⟩ = some (.slice (some ⟨a, 0, none⟩) z.length c) := (hB1.cell (p := ⟨gd, 1, none⟩) hga).trans (h.blk.cell 1)
  have cl := fun j v hj (hv : (cellsD (sumw ((itm z).take i)) z[i])[j]? = some v) => (hB1.cell (p := ⟨a, i * 8 + j, none⟩) haa).trans (hcl j v hj hv)
  have d0 := cl 0 _ (by omega) rfl
  have d1 := cl 1 _ (by omega) rfl
  have d2 := cl 2 _ (by omega) rfl
  have d3 := cl 3 _ (by omega) rfl
  have d4 := cl 4 _ (by omega) rfl
  have d5 := cl 5 _ (by omega) rfl
  have d6 := cl 6 _ (by omega) rfl
  have d7 := cl 7 _ (by omega) rfl
  rw [Nat.add_zero] at d0
  have hzl := zlen_le h
  have f0 := HBK.out.frozen 0
  have f1 := HBK.out.frozen 1
  have f2 := HBK.out.frozen 2
  have f3 := HBK.out.frozen 3
  have f4 := HBK.out.frozen 4
  have f5 := HBK.out.frozen 5
  have f6 := HBK.out.frozen 6
  have f7 := HBK.out.frozen 7
  have b0 := HBK.out.cell 0
  have b1 := HBK.out.cell 1
  have b2 := HBK.out.cell 2
  have b3 := HBK.out.cell 3
  have b4 := HBK.out.cell 4
  have b5 := HBK.out.cell 5
  have b6 := HBK.out.cell 6
  have b7 := HBK.out.cell 7
  clear h h1 h2 h3 h4 h5 hcl hfz hz cl hB1
  generalize sumw ((itm z).take i) = s at *
  generalize z[i] = p at *
  generalize z.length = n at *
  have HW := Lib.hid hW1
  clear hW1
  go_enter Try.func49, Try.ntmps49
  go_wp2_with fail
  rw [← HW.out]
  refine (HFD.out _ HB1.out).mono ?_
  rintro e w1 ⟨rfl, rfl⟩
  go_wp2
  have E1 := blk8 HBK.out (.int .i64 (s : Nat)) (.int .i64 (p.1.wd : Nat)) (.int .i64 p.1.id) (.slice p.2.A p.1.l.length p.2.c) (.bool p.1.red) (.int .i64 p.1.lbd) (.int .i64 p.1.used) (.bool p.1.dead)
  have hB := below8 HB1.out (Nat.le_refl _) (.int .i64 (s : Nat)) (.int .i64 (p.1.wd : Nat)) (.int .i64 p.1.id) (.slice p.2.A p.1.l.length p.2.c) (.bool p.1.red) (.int .i64 p.1.lbd) (.int .i64 p.1.used) (.bool p.1.dead)
  refine bodyPost_ret (results_cell_row (ty := 92) rfl _ _ w.heap.size 92 _ (0, 0) _ rfl E1 Try.underlying92 rfl (by kernel_rfl)) rfl ?_
  exact ⟨_, rfl, HFN.out _ hB, hB⟩
end
end Go.Proofs.Ytenadnmglhghiaa.Ar
