/- The document's arena: Collect. Conditions: the memory. (Printed by gen_bb.py.) -/
import Derived.Test.YtenadnmglhghiaaBa
namespace Go.Proofs.Ytenadnmglhghiaa.Ar
open Go.RowKit Go.Proofs.Ytenadnmglhghiaa.Mem Go.Proofs.Ytenadnmglhghiaa.Sl Go.Shelf
open Go.Proofs.Ytenadnmglhghiaa.FnL (enc_at below_then)
set_option linter.unusedVariables false

theorem CR.blkF {w0 wr w' : World} {B b : Nat} {A4 A5 A6 : Option Addr} {c4 c5 c6 : Nat} {F T : List Int} {zz : List (Itm × LAd)} {cs : Array Value} (h : CR w0 wr B A4 c4 A5 c5 A6 c6 F T zz) (hb : Blk wr b 92 cs) (hm : Mod (fun i => A4 = some ⟨i, 0, none⟩) wr w') : Blk w' b 92 cs :=
  hb.mod hm (fun e => Own.ne_blk h.f hb (by decide) e rfl)
theorem CR.blkT {w0 wr w' : World} {B b : Nat} {A4 A5 A6 : Option Addr} {c4 c5 c6 : Nat} {F T : List Int} {zz : List (Itm × LAd)} {cs : Array Value} (h : CR w0 wr B A4 c4 A5 c5 A6 c6 F T zz) (hb : Blk wr b 92 cs) (hm : Mod (fun i => A5 = some ⟨i, 0, none⟩) wr w') : Blk w' b 92 cs :=
  hb.mod hm (fun e => Own.ne_blk h.t hb (by decide) e rfl)
structure CRel (w wr : World) (z : List (Itm × LAd)) (k nf nt nz en : Nat) (A4 : Option Addr) (c4 : Nat) (A5 : Option Addr) (c5 : Nat) (A6 : Option Addr) (c6 : Nat) : Prop where
  kle : k ≤ z.length
  cr : CR w wr w.heap.size A4 c4 A5 c5 A6 c6 (NZ (refs ((itm z).take k))) (NZ (refs (keep ((itm z).take k)))) (keepD (z.take k))
  fl : nf = (NZ (refs ((itm z).take k))).length
  tl : nt = (NZ (refs (keep ((itm z).take k)))).length
  zl : nz = (keepD (z.take k)).length
  el : en = sumw (keep ((itm z).take k))
section
variable {w wr : World} {z : List (Itm × LAd)} {k nf nt nz en : Nat} {A4 A5 A6 : Option Addr} {c4 c5 c6 : Nat}
theorem CRel.start (w : World) (z : List (Itm × LAd)) : CRel w w z 0 0 0 0 0 none 0 none 0 none 0 := ⟨Nat.zero_le _, CR.start w, rfl, rfl, rfl, rfl⟩
theorem CRel.bd (h : CRel w wr z k nf nt nz en A4 c4 A5 c5 A6 c6) : nf ≤ k ∧ nt ≤ k ∧ nz ≤ k := by
  have h1 : (refs ((itm z).take k)).length ≤ k := by
    rw [← keep_len]
    unfold keep
    rw [List.length_map]
    exact Nat.le_trans (List.length_filter_le _ _) (by rw [List.length_take]; omega)
  refine ⟨by rw [h.fl, NZ_len]; exact h1, by rw [h.tl, NZ_len, keep_refs_len]; exact h1, ?_⟩
  rw [h.zl]
  exact Nat.le_trans (keepD_len _) (by rw [List.length_take]; omega)
theorem CRel.dead {w' : World} (h : CRel w wr z k nf nt nz en A4 c4 A5 c5 A6 c6) (hk : k < z.length) (hd : z[k].1.dead = true) (hb : Below wr.heap.size wr w') : CRel w w' z (k + 1) nf nt nz en A4 c4 A5 c5 A6 c6 := by
  have hk' : k < (itm z).length := by rw [itm_len]; exact hk
  have e1 : refs ((itm z).take (k + 1)) = refs ((itm z).take k) := by rw [List.take_succ_eq_append_getElem hk', refs_snoc, itm_at hk, hd]; simp
  have e2 : keep ((itm z).take (k + 1)) = keep ((itm z).take k) := by rw [List.take_succ_eq_append_getElem hk', keep_append, keep_one, itm_at hk, hd]; simp
  have e3 : keepD (z.take (k + 1)) = keepD (z.take k) := by rw [List.take_succ_eq_append_getElem hk, keepD_append, keepD_one, hd]; simp
  exact ⟨hk, by rw [e1, e2, e3]; exact h.cr.below hb, by rw [e1]; exact h.fl, by rw [e2]; exact h.tl, by rw [e3]; exact h.zl, by rw [e2]; exact h.el⟩
theorem CRel.live {w' : World} {B4 B5 B6 : Option Addr} {d4 d5 d6 : Nat} (h : CRel w wr z k nf nt nz en A4 c4 A5 c5 A6 c6) (hk : k < z.length) (hd : z[k].1.dead = false)
    (hc : CR w w' w.heap.size B4 d4 B5 d5 B6 d6 (NZ (refs ((itm z).take k)) ++ [((sumw ((itm z).take k) : Nat) : Int)]) (NZ (refs (keep ((itm z).take k))) ++ [(en : Int)]) (keepD (z.take k) ++ [(z[k].1.tight, z[k].2)])) :
    CRel w w' z (k + 1) (nf + 1) (nt + 1) (nz + 1) (en + (4 + z[k].1.l.length)) B4 d4 B5 d5 B6 d6 := by
  have hk' : k < (itm z).length := by rw [itm_len]; exact hk
  have e1 : refs ((itm z).take (k + 1)) = refs ((itm z).take k) ++ [sumw ((itm z).take k)] := by rw [List.take_succ_eq_append_getElem hk', refs_snoc, itm_at hk, hd]; simp
  have e2 : keep ((itm z).take (k + 1)) = keep ((itm z).take k) ++ [z[k].1.tight] := by rw [List.take_succ_eq_append_getElem hk', keep_append, keep_one, itm_at hk, hd]; simp
  have e3 : keepD (z.take (k + 1)) = keepD (z.take k) ++ [(z[k].1.tight, z[k].2)] := by rw [List.take_succ_eq_append_getElem hk, keepD_append, keepD_one, hd]; simp
  have e4 : refs (keep ((itm z).take k) ++ [z[k].1.tight]) = refs (keep ((itm z).take k)) ++ [en] := by
    rw [refs_snoc, ← h.el]
    show _ ++ (if z[k].1.dead = true then [] else [en]) = _
    rw [hd]; simp
  refine ⟨hk, by rw [e1, e2, e3, e4, ← NZ_snoc, ← NZ_snoc]; exact hc, by rw [e1, ← NZ_snoc, List.length_append, ← h.fl]; rfl, by rw [e2, e4, ← NZ_snoc, List.length_append, ← h.tl]; rfl, by rw [e3, List.length_append, ← h.zl]; rfl, ?_⟩
  rw [e2, sumw_append, ← h.el, sumw_one]
  rfl
end
section
variable {w : World} {base gd c : Nat} {S : Nat → Prop} {A : Option Addr} {lim : Int} {z : List (Itm × LAd)}
def RCollR (w : World) (base : Nat) (S : Nat → Prop) (gd : Nat) (lim : Int) (its : List Itm) (e : Ending) (w' : World) : Prop := ∃ A4 c4 A5 c5, e = .returned (.tuple #[.slice A4 (refs its).length c4, .slice A5 (refs its).length c5]) ∧
  App.Own w' w.heap.size 3 A4 (refs its).length c4 (IZ (NZ (refs its))) ∧ App.Own w' w.heap.size 3 A5 (refs its).length c5 (IZ (NZ (refs (keep its)))) ∧ RN w w' base S gd lim (keep its)
set_option maxRecDepth 100000 in
set_option maxHeartbeats 4000000 in
theorem rcollect_any (h : RA w base S gd A c lim z) (hbw : base ≤ w.heap.size) : Calls Try.prog 39 #[.pointer (some ⟨gd, 0, none⟩)] w (RCollR w base S gd lim (itm z)) := by
  have H := Lib.hid h
  have hzl := zlen_le h
  have HSW := Lib.hid (show sumw (itm z) ≤ 268435456 from by have := h.l0; have := h.l1; omega)
  clear h
  go_enter Try.func39, Try.ntmps39
  go_wp2_with fail
  go_loopw [4, 5, 6, 7, 8] (fun f t l e i wr => ∃ (k nf nt nz en : Nat) (A4 : Option Addr) (c4 : Nat) (A5 : Option Addr) (c5 : Nat) (A6 : Option Addr) (c6 : Nat), i = .int .i64 k ∧ f = .slice A4 nf c4 ∧ t = .slice A5 nt c5 ∧ l = .slice A6 nz c6 ∧ e = .int .i64 (en : Nat) ∧ CRel w wr z k nf nt nz en A4 c4 A5 c5 A6 c6) (fun _ _ _ _ i _ => z.length - (intOf i).toNat)
  case atStart => exact ⟨0, 0, 0, 0, 0, none, 0, none, 0, none, 0, rfl, rfl, rfl, rfl, rfl, CRel.start w z⟩
  case round =>
    obtain ⟨k, nf, nt, nz, en, A4, c4, A5, c5, A6, c6, rfl, rfl, rfl, rfl, rfl, hR⟩ := hrel
    have HR := Lib.hid hR
    have hk := hR.kle
    obtain ⟨hnf, hnt, hnz⟩ := hR.bd
    have HA := Lib.hid (H.out.below hR.cr.b)
    have c1 : wr.cell? ⟨gd, 1, none⟩ = some (.slice A z.length c) := HA.out.blk.cell 1
    clear hR
    by_cases hlt : k < z.length
    · obtain ⟨a, eA, _, hcl, _⟩ := HA.out.cells hlt
      have hk' : k < (itm z).length := by rw [itm_len]; exact hlt
      have d0 : wr.cell? ⟨a, k * 8, none⟩ = some (.int .i64 (sumw ((itm z).take k) : Nat)) := hcl 0 _ (by omega) rfl
      have d1 := hcl 1 _ (by omega) rfl
      have d2 := hcl 2 _ (by omega) rfl
      have d3 := hcl 3 _ (by omega) rfl
      have d4 := hcl 4 _ (by omega) rfl
      have d5 := hcl 5 _ (by omega) rfl
      have d6 := hcl 6 _ (by omega) rfl
      have d7 := hcl 7 _ (by omega) rfl
      subst eA
      rcases hd : z[k].1.dead with _ | _
      case' true =>
        have HND := Lib.hid (fun (cs : Array Value) => HR.out.dead hlt hd (below_al wr (.cells cs 92)))
        rw [hd] at d7
        generalize sumw ((itm z).take k) = s at *
        generalize z[k] = p at *
        clear hcl hk' hd
        go_wp2
        go_roundw
        case rel => exact ⟨k + 1, nf, nt, nz, en, A4, c4, A5, c5, A6, c6, by go_num, rfl, rfl, rfl, rfl, HND.out _⟩
        case measure => simp [intOf]; omega
      have hwd : 4 + z[k].1.l.length ≤ z[k].1.wd := (H.out.ok z[k].1 (List.mem_map.2 ⟨z[k], List.getElem_mem hlt, rfl⟩)).wd
      have hsp : sumw (itm z) = sumw ((itm z).take k) + (z[k].1.wd + sumw ((itm z).drop (k + 1))) := by
        conv => lhs; rw [← List.take_append_drop k (itm z), List.drop_eq_getElem_cons hk', sumw_append, sumw_cons, itm_at hlt]
      have hen : en ≤ sumw ((itm z).take k) := by rw [HR.out.el]; exact keep_sumw (fun x hx => H.out.ok x (List.mem_of_mem_take hx))
      have hsum := HSW.out
      rw [hsp] at hsum
      have HLV := Lib.hid (fun w' B4 B5 B6 d4 d5 d6 hc => HR.out.live (w' := w') (B4 := B4) (B5 := B5) (B6 := B6) (d4 := d4) (d5 := d5) (d6 := d6) hlt hd hc)
      rw [hd] at d7
      have HPD := Lib.hid hd
      generalize hF : NZ (refs ((itm z).take k)) = F at *
      generalize hT : NZ (refs (keep ((itm z).take k))) = T at *
      generalize hZ : keepD (z.take k) = zz at *
      have HNF := Lib.hid (show nf = F.length from by rw [← hF]; exact HR.out.fl)
      have HNT := Lib.hid (show nt = T.length from by rw [← hT]; exact HR.out.tl)
      have HNZ := Lib.hid (show nz = zz.length from by rw [← hZ]; exact HR.out.zl)
      have HSZ := Lib.hid (show sumw (itm zz) = en from by rw [← hZ, keepD_itm, ← itm_take]; exact HR.out.el.symm)
      have HC := Lib.hid (show CR w wr w.heap.size A4 c4 A5 c5 A6 c6 F T zz from by rw [← hF, ← hT, ← hZ]; exact HR.out.cr)
      have hbk := Nat.le_trans HC.out.le HC.out.b.size
      clear hF hT hZ hcl hk' hsp hd
      generalize sumw ((itm z).take k) = s at *
      generalize z[k] = p at *
      have hs2 : s + (p.1.wd) ≤ 268435456 := by omega
      have hen2 : en + (4 + p.1.l.length) ≤ 268435456 := by omega
      have k1 : nf + 1 ≤ 400000000 := by omega
      have k2 : nt + 1 ≤ 400000000 := by omega
      have k3 : nz + 1 ≤ 400000000 := by omega
      clear hsum
      go_upto_region 9 with (fail)
      obtain ⟨W1, hW1⟩ : ∃ W1, W1 = wr.alloc (.cells #[.int .i64 (s : Nat), .int .i64 (p.1.wd : Nat), .int .i64 p.1.id, .slice p.2.A p.1.l.length p.2.c, .bool p.1.red, .int .i64 p.1.lbd, .int .i64 p.1.used, .bool false] 92) := ⟨_, rfl⟩
      rw [show wr.alloc (.cells #[.int .i64 (s : Nat), .int .i64 (p.1.wd : Nat), .int .i64 p.1.id, .slice p.2.A p.1.l.length p.2.c, .bool p.1.red, .int .i64 p.1.lbd, .int .i64 p.1.used, .bool false] 92) = W1 from hW1.symm]
      have hb1 : Below wr.heap.size wr W1 := by rw [hW1]; exact below_al _ _
      have hx1 : Blk W1 wr.heap.size 92 #[.int .i64 (s : Nat), .int .i64 (p.1.wd : Nat), .int .i64 p.1.id, .slice p.2.A p.1.l.length p.2.c, .bool p.1.red, .int .i64 p.1.lbd, .int .i64 p.1.used, .bool false] := by rw [hW1]; exact Blk.new _ _ _
      have HC1 := Lib.hid (HC.out.below hb1)
      have HX1 := Lib.hid hx1
      have x0 : W1.cell? ⟨wr.heap.size, 0, none⟩ = some (.int .i64 (s : Nat)) := hx1.cell 0
      have hs1 : w.heap.size ≤ W1.heap.size := Nat.le_trans hbk hb1.size
      clear hW1 hb1 hx1 c1 d0 d1 d2 d3 d4 d5 d6 d7
      go_upto_region 10 with (at_builtin; refine wpAppIat rfl _ _ rfl w.heap.size A4 nf c4 F rfl (by rw [HNF.out]; exact (HC1.out.below (below_al _ _)).f) W1.heap.size 0 1 1 [((s : Nat) : Int)] rfl rfl (new_rd W1 (IZ [((s : Nat) : Int)]) _) k1 (by simp; omega) (nf + 1) rfl ?_; intro B4 e4 w3 hO3 hm3 ha3; have K1 := Lib.hid hO3; have K2 := Lib.hid hm3; have K3 := Lib.hid ha3; clear hO3 hm3 ha3 x0)
      have HC3 := Lib.hid ((HC1.out.below (below_al W1 _)).stepF ((s : Nat) : Int) (by rw [← HNF.out]; exact K1.out) K2.out K3.out)
      have HX3 := Lib.hid (CR.blkF (HC1.out.below (below_al W1 _)) (HX1.out.below (below_al W1 _)) K2.out)
      have hs3 : w.heap.size ≤ w3.heap.size := Nat.le_trans (Nat.le_trans hs1 (below_al W1 _).size) K2.out.size
      clear K1 K2 K3
      go_upto_region 11 with (at_builtin; refine wpAppIat rfl _ _ rfl w.heap.size A5 nt c5 T rfl (by rw [HNT.out]; exact (HC3.out.below (below_al _ _)).t) w3.heap.size 0 1 1 [((en : Nat) : Int)] rfl rfl (new_rd w3 (IZ [((en : Nat) : Int)]) _) k2 (by simp; omega) (nt + 1) rfl ?_; intro B5 e5 w4 hO4 hm4 ha4; have K1 := Lib.hid hO4; have K2 := Lib.hid hm4; have K3 := Lib.hid ha4; clear hO4 hm4 ha4)
      have HC4 := Lib.hid ((HC3.out.below (below_al w3 _)).stepT ((en : Nat) : Int) (by rw [← HNT.out]; exact K1.out) K2.out K3.out)
      have HX4 := Lib.hid (CR.blkT (HC3.out.below (below_al w3 _)) (HX3.out.below (below_al w3 _)) K2.out)
      have hs4 : w.heap.size ≤ w4.heap.size := Nat.le_trans (Nat.le_trans hs3 (below_al w3 _).size) K2.out.size
      clear K1 K2 K3
      have x0 : w4.cell? ⟨wr.heap.size, 0, none⟩ = some (.int .i64 (s : Nat)) := HX4.out.cell 0
      have x1 : w4.cell? ⟨wr.heap.size, 1, none⟩ = some (.int .i64 (p.1.wd : Nat)) := HX4.out.cell 1
      have x3 : w4.cell? ⟨wr.heap.size, 3, none⟩ = some (.slice p.2.A p.1.l.length p.2.c) := HX4.out.cell 3
      have f0 := HX4.out.frozen 0
      have f1 := HX4.out.frozen 1
      have e1 : IntKind.i64.wrap (4 + (p.1.l.length : Int)) = 4 + p.1.l.length := IntWalk.i64_in _ (by omega)
      have e2 : IntKind.i64.wrap ((en : Int) + (4 + p.1.l.length)) = (en : Int) + (4 + p.1.l.length) := IntWalk.i64_in _ (by omega)
      have hwb : w.heap.size ≤ wr.heap.size := hbk
      have HA6 := Lib.hid (show ∀ i, A6 = some ⟨i, 0, none⟩ → i ≠ wr.heap.size from fun i e => by have := (HC.out.r.lt e).2; omega)
      go_upto_region 12 with (fail)
      obtain ⟨Wa, hWa⟩ : ∃ Wa, Wa = w4.setCell ⟨wr.heap.size, 0, none⟩ (.int .i64 (en : Nat)) := ⟨_, rfl⟩
      rw [show w4.setCell ⟨wr.heap.size, 0, none⟩ (.int .i64 (en : Nat)) = Wa from hWa.symm]
      have hxa : Blk Wa wr.heap.size 92 #[.int .i64 (en : Nat), .int .i64 (p.1.wd : Nat), .int .i64 p.1.id, .slice p.2.A p.1.l.length p.2.c, .bool p.1.red, .int .i64 p.1.lbd, .int .i64 p.1.used, .bool false] := by rw [hWa]; exact Blk.set_ HX4.out 0 _
      have HCa := Lib.hid (show CR w Wa w.heap.size B4 e4 B5 e5 A6 c6 (F ++ [((s : Nat) : Int)]) (T ++ [((en : Nat) : Int)]) zz from HC4.out.setB HX4.out (by decide) hwb HA6.out (by rw [hWa]; exact Mod.setCell (S := fun j => j = wr.heap.size) (Mod.refl _ _) (p := ⟨wr.heap.size, 0, none⟩) (.inl rfl) _))
      have HXa := Lib.hid hxa
      clear hWa hxa x0 x1 x3 f0 f1
      have x1 : Wa.cell? ⟨wr.heap.size, 1, none⟩ = some (.int .i64 (p.1.wd : Nat)) := HXa.out.cell 1
      have x3 : Wa.cell? ⟨wr.heap.size, 3, none⟩ = some (.slice p.2.A p.1.l.length p.2.c) := HXa.out.cell 3
      have f1 := HXa.out.frozen 1
      go_upto_region 13 with (fail)
      obtain ⟨Wb, hWb⟩ : ∃ Wb, Wb = Wa.setCell ⟨wr.heap.size, 1, none⟩ (.int .i64 (4 + (p.1.l.length : Int))) := ⟨_, rfl⟩
      rw [show Wa.setCell ⟨wr.heap.size, 1, none⟩ (.int .i64 (4 + (p.1.l.length : Int))) = Wb from hWb.symm]
      have hxb : Blk Wb wr.heap.size 92 #[.int .i64 (en : Nat), .int .i64 (4 + (p.1.l.length : Int)), .int .i64 p.1.id, .slice p.2.A p.1.l.length p.2.c, .bool p.1.red, .int .i64 p.1.lbd, .int .i64 p.1.used, .bool false] := by rw [hWb]; exact Blk.set_ HXa.out 1 _
      have hmb : Mod (fun j => j = wr.heap.size) Wa Wb := by rw [hWb]; exact Mod.setCell (S := fun j => j = wr.heap.size) (Mod.refl _ _) (p := ⟨wr.heap.size, 1, none⟩) (.inl rfl) _
      have HCb := Lib.hid (show CR w Wb w.heap.size B4 e4 B5 e5 A6 c6 (F ++ [((s : Nat) : Int)]) (T ++ [((en : Nat) : Int)]) zz from HCa.out.setB HXa.out (by decide) hwb HA6.out hmb)
      have hsb : w.heap.size ≤ Wb.heap.size := Nat.le_trans HCb.out.le HCb.out.b.size
      clear hWb hmb x1 x3 f1
      have b0 : Wb.cell? ⟨wr.heap.size, 0, none⟩ = some (.int .i64 (en : Nat)) := hxb.cell 0
      have b1 : Wb.cell? ⟨wr.heap.size, 1, none⟩ = some (.int .i64 (4 + (p.1.l.length : Int))) := hxb.cell 1
      have b2 : Wb.cell? ⟨wr.heap.size, 2, none⟩ = some (.int .i64 p.1.id) := hxb.cell 2
      have b3 : Wb.cell? ⟨wr.heap.size, 3, none⟩ = some (.slice p.2.A p.1.l.length p.2.c) := hxb.cell 3
      have b4 : Wb.cell? ⟨wr.heap.size, 4, none⟩ = some (.bool p.1.red) := hxb.cell 4
      have b5 : Wb.cell? ⟨wr.heap.size, 5, none⟩ = some (.int .i64 p.1.lbd) := hxb.cell 5
      have b6 : Wb.cell? ⟨wr.heap.size, 6, none⟩ = some (.int .i64 p.1.used) := hxb.cell 6
      have b7 : Wb.cell? ⟨wr.heap.size, 7, none⟩ = some (.bool false) := hxb.cell 7
      have HRD := Lib.hid (show RdV (Wb.alloc (.cells #[.int .i64 (en : Nat), .int .i64 (4 + (p.1.l.length : Int)), .int .i64 p.1.id, .slice p.2.A p.1.l.length p.2.c, .bool p.1.red, .int .i64 p.1.lbd, .int .i64 p.1.used, .bool false] 92)) (some ⟨Wb.heap.size, 0, none⟩) (cellsD en (p.1.tight, p.2)) from by
        have hcd : (cellsD en (p.1.tight, p.2)).toArray = #[.int .i64 (en : Nat), .int .i64 (4 + (p.1.l.length : Int)), .int .i64 p.1.id, .slice p.2.A p.1.l.length p.2.c, .bool p.1.red, .int .i64 p.1.lbd, .int .i64 p.1.used, .bool false] := by
          unfold cellsD
          show #[Value.int .i64 (en : Nat), .int .i64 ((4 + p.1.l.length : Nat) : Int), .int .i64 p.1.id, .slice p.2.A p.1.l.length p.2.c, .bool p.1.red, .int .i64 p.1.lbd, .int .i64 p.1.used, .bool p.1.dead] = _
          rw [HPD.out]
          simp
        rw [← hcd]
        exact new_rd Wb _ _)
      clear hxb
      go_wp2_with (at_builtin; refine wpAppD rfl _ _ rfl w.heap.size A6 nz c6 (rowsD 0 zz) rfl (by rw [HNZ.out]; exact (HCb.out.below (below_al Wb _)).r) Wb.heap.size 0 1 en (p.1.tight, p.2) rfl HRD.out k3 (by simp; omega) ?_; intro B6 e6 w6 hO6 hm6 ha6; have K1 := Lib.hid hO6; have K2 := Lib.hid hm6; clear hO6 hm6 ha6)
      have HC6 := Lib.hid ((HCb.out.below (below_al Wb _)).stepR (p.1.tight, p.2) (by rw [← HNZ.out, HSZ.out]; exact K1.out) K2.out)
      have HLV2 := Lib.hid (HLV.out _ _ _ _ _ _ _ HC6.out)
      clear K1 K2
      go_roundw
      case rel => exact ⟨k + 1, nf + 1, nt + 1, nz + 1, en + (4 + p.1.l.length), B4, e4, B5, e5, B6, e6, by go_num, rfl, rfl, rfl, by push_cast; rfl, HLV2.out⟩
      case measure => simp [intOf]; omega
    · have hkz : k = z.length := by omega
      have HZA := Lib.hid (show (itm z).take k = itm z from List.take_of_length_le (by rw [itm_len]; omega))
      have HZB := Lib.hid (show z.take k = z from List.take_of_length_le (by omega))
      have hC := HR.out.cr
      rw [HZA.out, HZB.out] at hC
      have hF := rcollect_fin H.out hbw hC
      have hz1 := HR.out.zl
      have he1 := HR.out.el
      have hf1 := HR.out.fl
      have ht1 := HR.out.tl
      rw [HZA.out] at he1 hf1 ht1
      rw [HZB.out] at hz1
      rw [← hz1, ← he1, ← hf1, ← ht1] at hF
      obtain ⟨g1, g2, g3, g4⟩ := hF
      obtain ⟨g5, g6⟩ := g3 (.slice A6 nz c6)
      have HG := Lib.hid g4
      have HNF := Lib.hid hf1
      have HNT := Lib.hid ht1
      clear g3 g4 hz1 he1 hf1 ht1 hC hkz
      go_wp2
      go_ret2
      refine ⟨A4, c4, A5, c5, ?_, ?_, ?_, HG.out.1⟩
      · rw [show (refs (itm z)).length = nf from by rw [HNF.out, NZ_len], show nf = nt from by rw [HNF.out, HNT.out, NZ_len, NZ_len, keep_refs_len]]; rfl
      · rw [show (refs (itm z)).length = nf from by rw [HNF.out, NZ_len]]; exact HG.out.2.1
      · rw [show (refs (itm z)).length = nt from by rw [HNT.out, NZ_len, keep_refs_len]]; exact HG.out.2.2
end
end Go.Proofs.Ytenadnmglhghiaa.Ar
