/- The document's arena: Swap. Conditions: the memory. (Printed by gen_ax.py.) -/
import Derived.Test.YtenadnmglhghiaaAw
namespace Go.Proofs.Ytenadnmglhghiaa.Ar
open Go.RowKit Go.Proofs.Ytenadnmglhghiaa.Mem Go.Proofs.Ytenadnmglhghiaa.Sl Go.Shelf
open Go.Proofs.Ytenadnmglhghiaa.FnL (enc_at below_then)
set_option linter.unusedVariables false

section
variable {w : World} {base gd c : Nat} {S : Nat → Prop} {A : Option Addr} {lim : Int} {z : List (Itm × LAd)}
theorem RA.wide {T : Nat → Prop} (h : RA w base S gd A c lim z) (hT : ∀ i, S i → T i) (lo : ∀ i, T i → base ≤ i) (lt : ∀ i, T i → i < w.heap.size) : RA w base T gd A c lim z :=
  ⟨h.blk, h.row, h.lits, h.ok, h.l0, h.l1, hT _ h.fg, fun i e => hT i (h.fa i e), fun p hp i e => hT i (h.fl p hp i e), lo, lt⟩
/-- An item is written anew, in a later world; its literals may be new ones. -/
theorem RA.putN {W : World} {a i : Nat} (h : RA w base S gd (some ⟨a, 0, none⟩) c lim z) (hbw : base ≤ w.heap.size) (hb : Below w.heap.size w W) (hi : i < z.length) (p : Itm × LAd) (hw : z[i].1.wd = p.1.wd) (hok : IOk p.1) (hl : App.Own W base 26 p.2.A p.1.l.length p.2.c (LI p.1.l)) (hfl : ∀ i, p.2.A = some ⟨i, 0, none⟩ → newS S w W i) :
    RN w (Ar.put8 W a i (sumw ((itm z).take i)) p) base S gd lim (itm (z.set i p)) := by
  obtain ⟨k1, k2⟩ := ((h.below hb).wide (T := newS S w W) (fun i hi => .inl hi) (fun i hi => hi.elim (h.lo i) fun hi => Nat.le_trans hbw hi.1) (fun i hi => hi.elim (fun hi => Nat.lt_of_lt_of_le (h.lt i hi) hb.size) fun hi => hi.2)).put8 hi p hw hok hl hfl
  have hm := put8_mod W a i (sumw ((itm z).take i)) p
  have hSa := h.fa a rfl
  refine ⟨⟨_, _, _, rfl, k1.wide (fun j hj => hj.elim .inl fun hj => .inr ⟨hj.1, Nat.lt_of_lt_of_le hj.2 hm.size⟩) (fun j hj => hj.elim (h.lo j) fun hj => Nat.le_trans hbw hj.1) (fun j hj => hj.elim (fun hj => Nat.lt_of_lt_of_le (h.lt j hj) (Nat.le_trans hb.size hm.size)) fun hj => hj.2)⟩, ?_⟩
  exact (Mod.none_ hb S).then_ (hm.mono fun k _ e => by rw [e]; exact hSa)
set_option maxRecDepth 100000 in
set_option maxHeartbeats 4000000 in
theorem rswap_any (h : RA w base S gd A c lim z) (hbw : base ≤ w.heap.size) (r i k : Int) (hi0 : inI i) (hk0 : inI k) : Calls Try.prog 37 #[.pointer (some ⟨gd, 0, none⟩), .int .i64 r, .int .i64 i, .int .i64 k] w fun e w' =>
    e = .returned (.int .i64 (swapM (itm z) r i k).1) ∧ RN w w' base S gd lim (swapM (itm z) r i k).2 := by
  have HFD := Lib.hid (find_any h r)
  rcases fnd_z h r with ⟨h1, h2, h3⟩ | ⟨m, hm, h1, h2, h3, h4, h5⟩
  · have HE := Lib.hid (show swapM (itm z) r i k = (91, itm z) by unfold swapM; rw [h1])
    have HF := Lib.hid (RN.of (w := w) h rfl (Mod.refl _ _) hbw)
    rw [h3] at HFD
    clear h h1 h2 h3
    go_enter Try.func37, Try.ntmps37
    go_wp2_with fail
    refine HFD.out.mono ?_
    rintro e w1 ⟨rfl, rfl⟩
    go_wp2
    go_ret
    exact ⟨by rw [HE.out]; rfl, by rw [HE.out]; exact HF.out⟩
  rw [h3] at HFD
  obtain ⟨a, eA, hzc, hcl, hfz⟩ := h.cells hm
  subst eA
  have c1 : w.cell? ⟨gd, 1, none⟩ = some (.slice (some ⟨a, 0, none⟩) z.length c) := h.blk.cell 1
  have hok := h.ok z[m].1 (List.mem_map.2 ⟨z[m], List.getElem_mem hm, rfl⟩)
  have hz : z[m] ∈ z := List.getElem_mem hm
  have hzl := zlen_le h
  have hga := h.blk.lt
  have haa : a < w.heap.size := h.lt a (h.fa a rfl)
  have hLn : z[m].1.l.length ≤ 268435456 := by
    have hk' : m < (itm z).length := by rw [itm_len]; exact hm
    have h2 : sumw (itm z) = sumw ((itm z).take m) + (z[m].1.wd + sumw ((itm z).drop (m + 1))) := by
      conv => lhs; rw [← List.take_append_drop m (itm z), List.drop_eq_getElem_cons hk', sumw_append, sumw_cons, itm_at hm]
    have := h.l0; have := h.l1; have := hok.wd
    omega
  by_cases q1 : i < 0
  · have HE := Lib.hid (show swapM (itm z) r i k = (2, itm z) by unfold swapM; rw [h1, h2]; exact if_pos (.inl q1))
    have HF := Lib.hid (fun W (hb : Below w.heap.size w W) => RN.of (w := w) (h.below hb) rfl (Mod.none_ hb S) hbw)
    have d0 := hcl 0 _ (by omega) rfl
    have d1 := hcl 1 _ (by omega) rfl
    have d2 := hcl 2 _ (by omega) rfl
    have d3 := hcl 3 _ (by omega) rfl
    have d4 := hcl 4 _ (by omega) rfl
    have d5 := hcl 5 _ (by omega) rfl
    have d6 := hcl 6 _ (by omega) rfl
    have d7 := hcl 7 _ (by omega) rfl
    rw [Nat.add_zero] at d0
    clear h h1 h2 h3 h4 h5 hcl hok hfz hz
    generalize z[m] = p at *
    generalize sumw ((itm z).take m) = s at *
    generalize z.length = n at *
    generalize p.1.l.length = L at *
    go_enter Try.func37, Try.ntmps37
    go_wp2_with fail
    refine HFD.out.mono ?_
    rintro e w1 ⟨rfl, rfl⟩
    go_wp2
    go_ret
    exact ⟨by rw [HE.out]; rfl, by rw [HE.out]; exact HF.out _ (below_al _ _)⟩
  by_cases q2 : k < 0
  · have HE := Lib.hid (show swapM (itm z) r i k = (2, itm z) by unfold swapM; rw [h1, h2]; exact if_pos (.inr (.inl q2)))
    have HF := Lib.hid (fun W (hb : Below w.heap.size w W) => RN.of (w := w) (h.below hb) rfl (Mod.none_ hb S) hbw)
    have d0 := hcl 0 _ (by omega) rfl
    have d1 := hcl 1 _ (by omega) rfl
    have d2 := hcl 2 _ (by omega) rfl
    have d3 := hcl 3 _ (by omega) rfl
    have d4 := hcl 4 _ (by omega) rfl
    have d5 := hcl 5 _ (by omega) rfl
    have d6 := hcl 6 _ (by omega) rfl
    have d7 := hcl 7 _ (by omega) rfl
    rw [Nat.add_zero] at d0
    clear h h1 h2 h3 h4 h5 hcl hok hfz hz
    generalize z[m] = p at *
    generalize sumw ((itm z).take m) = s at *
    generalize z.length = n at *
    generalize p.1.l.length = L at *
    go_enter Try.func37, Try.ntmps37
    go_wp2_with fail
    refine HFD.out.mono ?_
    rintro e w1 ⟨rfl, rfl⟩
    go_wp2
    go_ret
    exact ⟨by rw [HE.out]; rfl, by rw [HE.out]; exact HF.out _ (below_al _ _)⟩
  by_cases q3 : (z[m].1.l.length : Int) ≤ i
  · have HE := Lib.hid (show swapM (itm z) r i k = (2, itm z) by unfold swapM; rw [h1, h2]; exact if_pos (.inr (.inr (.inl q3))))
    have HF := Lib.hid (fun W (hb : Below w.heap.size w W) => RN.of (w := w) (h.below hb) rfl (Mod.none_ hb S) hbw)
    have d0 := hcl 0 _ (by omega) rfl
    have d1 := hcl 1 _ (by omega) rfl
    have d2 := hcl 2 _ (by omega) rfl
    have d3 := hcl 3 _ (by omega) rfl
    have d4 := hcl 4 _ (by omega) rfl
    have d5 := hcl 5 _ (by omega) rfl
    have d6 := hcl 6 _ (by omega) rfl
    have d7 := hcl 7 _ (by omega) rfl
    rw [Nat.add_zero] at d0
    clear h h1 h2 h3 h4 h5 hcl hok hfz hz
    generalize z[m] = p at *
    generalize sumw ((itm z).take m) = s at *
    generalize z.length = n at *
    generalize p.1.l.length = L at *
    go_enter Try.func37, Try.ntmps37
    go_wp2_with fail
    refine HFD.out.mono ?_
    rintro e w1 ⟨rfl, rfl⟩
    go_wp2
    go_ret
    exact ⟨by rw [HE.out]; rfl, by rw [HE.out]; exact HF.out _ (below_al _ _)⟩
  by_cases q4 : (z[m].1.l.length : Int) ≤ k
  · have HE := Lib.hid (show swapM (itm z) r i k = (2, itm z) by unfold swapM; rw [h1, h2]; exact if_pos (.inr (.inr (.inr q4))))
    have HF := Lib.hid (fun W (hb : Below w.heap.size w W) => RN.of (w := w) (h.below hb) rfl (Mod.none_ hb S) hbw)
    have d0 := hcl 0 _ (by omega) rfl
    have d1 := hcl 1 _ (by omega) rfl
    have d2 := hcl 2 _ (by omega) rfl
    have d3 := hcl 3 _ (by omega) rfl
    have d4 := hcl 4 _ (by omega) rfl
    have d5 := hcl 5 _ (by omega) rfl
    have d6 := hcl 6 _ (by omega) rfl
    have d7 := hcl 7 _ (by omega) rfl
    rw [Nat.add_zero] at d0
    clear h h1 h2 h3 h4 h5 hcl hok hfz hz
    generalize z[m] = p at *
    generalize sumw ((itm z).take m) = s at *
    generalize z.length = n at *
    generalize p.1.l.length = L at *
    go_enter Try.func37, Try.ntmps37
    go_wp2_with fail
    refine HFD.out.mono ?_
    rintro e w1 ⟨rfl, rfl⟩
    go_wp2
    go_ret
    exact ⟨by rw [HE.out]; rfl, by rw [HE.out]; exact HF.out _ (below_al _ _)⟩
  obtain ⟨i, rfl⟩ : ∃ i' : Nat, i = i' := ⟨i.toNat, by omega⟩
  obtain ⟨k, rfl⟩ : ∃ k' : Nat, k = k' := ⟨k.toNat, by omega⟩
  have hil : i < z[m].1.l.length := by omega
  have hkl : k < z[m].1.l.length := by omega
  have HE := Lib.hid (show swapM (itm z) r i k = (0, itm (z.set m (z[m].1.lits (swapL z[m].1.l i k), z[m].2))) by
    unfold swapM; rw [h1, h2, itm_set]; exact if_neg (by omega))
  have gi : z[m].1.l.getD i 0 = z[m].1.l[i] := by rw [List.getD_eq_getElem?_getD, List.getElem?_eq_getElem hil]; rfl
  have gk : z[m].1.l.getD k 0 = z[m].1.l[k] := by rw [List.getD_eq_getElem?_getD, List.getElem?_eq_getElem hkl]; rfl
  have hoky : IOk (z[m].1.lits (swapL z[m].1.l i k)) := ⟨by show 4 + (swapL z[m].1.l i k).length ≤ z[m].1.wd; rw [swapL_len]; exact hok.wd, hok.id, fun y hy => by
    have hy : y ∈ swapL z[m].1.l i k := hy
    rcases List.mem_or_eq_of_mem_set hy with hy | rfl
    · rcases List.mem_or_eq_of_mem_set hy with hy | rfl
      · exact hok.l y hy
      · rw [gk]; exact hok.l _ (List.getElem_mem hkl)
    · rw [gi]; exact hok.l _ (List.getElem_mem hil), hok.lbd, hok.used⟩
  have HFN := Lib.hid (fun W (hb : Below w.heap.size w W) (g c3 : Nat) (hg : w.heap.size ≤ g ∧ g < W.heap.size) (hO : App.Own W w.heap.size 26 (some ⟨g, 0, none⟩) z[m].1.l.length c3 (LI (swapL z[m].1.l i k))) => show RN w (put8c W a m (.int .i64 (sumw ((itm z).take m) : Nat)) (.int .i64 (z[m].1.wd : Nat)) (.int .i64 z[m].1.id) (.slice (some ⟨g, 0, none⟩) z[m].1.l.length c3) (.bool z[m].1.red) (.int .i64 z[m].1.lbd) (.int .i64 z[m].1.used) (.bool z[m].1.dead)).drew base S gd lim (itm (z.set m (z[m].1.lits (swapL z[m].1.l i k), z[m].2))) from by
    have k3 := (h.putN hbw hb hm (z[m].1.lits (swapL z[m].1.l i k), ⟨some ⟨g, 0, none⟩, c3⟩) rfl hoky (by show App.Own W base _ (some ⟨g, 0, none⟩) (swapL z[m].1.l i k).length c3 _; rw [swapL_len]; exact hO.low hbw) (fun j e => by injection e with e; injection e with e; exact .inr (by rw [← e]; exact hg))).drew
    have k4 : put8 W a m (sumw ((itm z).take m)) (z[m].1.lits (swapL z[m].1.l i k), ⟨some ⟨g, 0, none⟩, c3⟩) = put8c W a m (.int .i64 (sumw ((itm z).take m) : Nat)) (.int .i64 (z[m].1.wd : Nat)) (.int .i64 z[m].1.id) (.slice (some ⟨g, 0, none⟩) (swapL z[m].1.l i k).length c3) (.bool z[m].1.red) (.int .i64 z[m].1.lbd) (.int .i64 z[m].1.used) (.bool z[m].1.dead) := rfl
    rw [k4, swapL_len, itm_set] at k3
    rw [itm_set]
    exact k3)
  have hlt := h.lits z[m] hz
  obtain ⟨gl, eL, hgb, hgr⟩ := hlt.row (by omega)
  have hgl : gl < w.heap.size := h.lt gl (h.fl z[m] hz gl eL)
  have d0 := hcl 0 _ (by omega) rfl
  have d1 := hcl 1 _ (by omega) rfl
  have d2 := hcl 2 _ (by omega) rfl
  have d3 := hcl 3 _ (by omega) rfl
  have d4 := hcl 4 _ (by omega) rfl
  have d5 := hcl 5 _ (by omega) rfl
  have d6 := hcl 6 _ (by omega) rfl
  have d7 := hcl 7 _ (by omega) rfl
  rw [Nat.add_zero] at d0
  rw [eL] at d3
  have HFZ := Lib.hid hfz
  have HRD := Lib.hid (show RdV w (some ⟨gl, 0, none⟩) (LI z[m].1.l) from by have := hlt.rd; rwa [eL] at this)
  have li : w.cell? ⟨gl, i, none⟩ = some (.int .i32 (z[m].1.l.getD i 0)) := hgr.cell (by rw [gi]; unfold LI; rw [List.getElem?_map, List.getElem?_eq_getElem hil]; rfl)
  have lk : w.cell? ⟨gl, k, none⟩ = some (.int .i32 (z[m].1.l.getD k 0)) := hgr.cell (by rw [gk]; unfold LI; rw [List.getElem?_map, List.getElem?_eq_getElem hkl]; rfl)
  have hlc : z[m].1.l.length ≤ z[m].2.c := by have := hgr.le; unfold LI at this; rwa [List.length_map] at this
  have HSL := Lib.hid (show ∀ W g c3, App.Own W w.heap.size 26 (some ⟨g, 0, none⟩) z[m].1.l.length c3 (LI z[m].1.l) → App.Own ((W.setCell ⟨g, i, none⟩ (.int .i32 (z[m].1.l.getD k 0))).setCell ⟨g, k, none⟩ (.int .i32 (z[m].1.l.getD i 0))) w.heap.size 26 (some ⟨g, 0, none⟩) z[m].1.l.length c3 (LI (swapL z[m].1.l i k)) from fun W g c3 hO => by
    have := (hO.set_ i hil (.int .i32 (z[m].1.l.getD k 0))).set_ k hkl (.int .i32 (z[m].1.l.getD i 0))
    unfold swapL LI
    rw [List.map_set, List.map_set]
    exact this)
  have HSR := Lib.hid (show ∀ W g c3, App.Own W w.heap.size 26 (some ⟨g, 0, none⟩) z[m].1.l.length c3 (LI z[m].1.l) → App.Own (W.setCell ⟨g, i, none⟩ (.int .i32 (z[m].1.l.getD k 0))) w.heap.size 26 (some ⟨g, 0, none⟩) z[m].1.l.length c3 ((LI z[m].1.l).set i (.int .i32 (z[m].1.l.getD k 0))) from fun W g c3 hO => hO.set_ i hil (.int .i32 (z[m].1.l.getD k 0)))
  have HLL := Lib.hid (show z[m].1.l.length = z[m].1.l.length from rfl)
  clear h h1 h2 h3 h4 h5 hcl hok hfz hz gi gk hoky hlt eL hgb hgr
  generalize sumw ((itm z).take m) = s at *
  generalize itm (z.set m (z[m].1.lits (swapL z[m].1.l i k), z[m].2)) = its' at *
  generalize z[m] = p at *
  generalize z.length = n at *
  generalize p.1.l.getD i 0 = vi at *
  generalize p.1.l.getD k 0 = vk at *
  generalize swapL p.1.l i k = l' at *
  generalize p.1.l = lst at *
  obtain ⟨L, hL⟩ : ∃ L, lst.length = L := ⟨_, rfl⟩
  have HL := Lib.hid hL
  clear HLL
  rw [hL] at HFN HSL HSR d3 hil hkl q3 q4 hlc hLn
  clear hL
  go_enter Try.func37, Try.ntmps37
  go_wp2_with fail
  refine HFD.out.mono ?_
  rintro e w1 ⟨rfl, rfl⟩
  go_upto_region 9 with (fail)
  obtain ⟨W1, hW1⟩ : ∃ W1, W1 = w.alloc (.cells #[.int .i64 (s : Nat), .int .i64 (p.1.wd : Nat), .int .i64 p.1.id, .slice (some ⟨gl, 0, none⟩) L p.2.c, .bool p.1.red, .int .i64 p.1.lbd, .int .i64 p.1.used, .bool p.1.dead] 92) := ⟨_, rfl⟩
  have hB1 : Below w.heap.size w W1 := by rw [hW1]; exact below_al _ _
  have hs1 : W1.heap.size = w.heap.size + 1 := by rw [hW1]; simp
  have hbk : Blk W1 w.heap.size 92 #[.int .i64 (s : Nat), .int .i64 (p.1.wd : Nat), .int .i64 p.1.id, .slice (some ⟨gl, 0, none⟩) L p.2.c, .bool p.1.red, .int .i64 p.1.lbd, .int .i64 p.1.used, .bool p.1.dead] := by rw [hW1]; exact Blk.new _ _ _
  have b3 : W1.cell? ⟨w.heap.size, 3, none⟩ = some (.slice (some ⟨gl, 0, none⟩) L p.2.c) := hbk.cell 3
  rw [show w.alloc (.cells #[.int .i64 (s : Nat), .int .i64 (p.1.wd : Nat), .int .i64 p.1.id, .slice (some ⟨gl, 0, none⟩) L p.2.c, .bool p.1.red, .int .i64 p.1.lbd, .int .i64 p.1.used, .bool p.1.dead] 92) = W1 from hW1.symm]
  have HB1 := Lib.hid hB1
  have HBK := Lib.hid hbk
  have HS1 := Lib.hid hs1
  have hk1 : 0 + L ≤ 400000000 := by omega
  clear hW1 hB1 hs1 hbk
  go_upto_region 10 with (at_builtin; refine wpAppC rfl _ _ rfl (w.heap.size + 1) none 0 0 [] rfl (App.Own.nil _ _ _) (some ⟨gl, 0, none⟩) L p.2.c lst rfl HL.out.symm (HRD.out.below HB1.out) (fun h => by cases h) hk1 (by rw [HS1.out]; exact Nat.le_refl _) L (by omega) ?_; intro A3 c3 w3 hO3 hm3; have HO3 := Lib.hid hO3; have HM3 := Lib.hid hm3; clear hO3 hm3 b3)
  obtain ⟨g3, eg, hg3, hr3⟩ := HO3.out.row (by omega)
  subst eg
  have HBW := Lib.hid (HB1.out.trans (HM3.out.below (B := w.heap.size) (fun i _ e => by cases e) HB1.out.size))
  have hBW := HBW.out
  have hb3 : Blk w3 w.heap.size 92 #[.int .i64 (s : Nat), .int .i64 (p.1.wd : Nat), .int .i64 p.1.id, .slice (some ⟨gl, 0, none⟩) L p.2.c, .bool p.1.red, .int .i64 p.1.lbd, .int .i64 p.1.used, .bool p.1.dead] := HBK.out.mod HM3.out (fun e => by cases e)
  have HB3 := Lib.hid hb3
  have y1 : w3.cell? ⟨w.heap.size, 3, none⟩ = some (.slice (some ⟨gl, 0, none⟩) L p.2.c) := hb3.cell 3
  have y2 : w3.frozen? ⟨w.heap.size, 3, none⟩ = false := hb3.frozen 3
  have y3 : w3.cell? ⟨gl, i, none⟩ = some (.int .i32 vi) := (hBW.cell (p := ⟨gl, i, none⟩) hgl).trans li
  have y4 : w3.cell? ⟨gl, k, none⟩ = some (.int .i32 vk) := (hBW.cell (p := ⟨gl, k, none⟩) hgl).trans lk
  have y5 : w3.frozen? ⟨g3, i, none⟩ = false := hr3.frozen i
  have y6 : w3.frozen? ⟨g3, k, none⟩ = false := hr3.frozen k
  have hcell : ∀ j, j < L → ∃ v, w3.cell? ⟨g3, j, none⟩ = some v := fun j hj => by
    have hlen : j < (LI ([] ++ lst)).length := by unfold LI; rw [List.length_map, List.nil_append, HL.out]; exact hj
    exact ⟨_, hr3.cell (List.getElem?_eq_getElem hlen)⟩
  obtain ⟨u1, y7⟩ := hcell i hil
  obtain ⟨u2, y8⟩ := hcell k hkl
  have n1 : ¬ g3 = w.heap.size := by omega
  have n2 : ¬ w.heap.size = g3 := by omega
  have n3 : ¬ g3 = gl := by omega
  have n4 : ¬ gl = g3 := by omega
  have HLI := Lib.hid li
  have HG3 := Lib.hid (show w.heap.size ≤ g3 ∧ g3 < w3.heap.size from ⟨by omega, hr3.lt⟩)
  clear hBW hb3 hcell hr3 li lk
  go_upto_region 11 with (fail)
  obtain ⟨Wa, hWa⟩ : ∃ Wa, Wa = w3.setCell ⟨g3, i, none⟩ (.int .i32 vk) := ⟨_, rfl⟩
  rw [show w3.setCell ⟨g3, i, none⟩ (.int .i32 vk) = Wa from hWa.symm]
  have hma : Mod (fun j => j = g3) w3 Wa := by rw [hWa]; exact Mod.setCell (S := fun j => j = g3) (Mod.refl _ _) (p := ⟨g3, i, none⟩) (.inl rfl) _
  have v1 : Wa.cell? ⟨w.heap.size, 3, none⟩ = some (.slice (some ⟨gl, 0, none⟩) L p.2.c) := (HB3.out.mod hma n2).cell 3
  have v3 : Wa.cell? ⟨gl, i, none⟩ = some (.int .i32 vi) := ((HBW.out.trans (hma.below (fun j hj e => by rw [e]; exact HG3.out.1) HBW.out.size)).cell (p := ⟨gl, i, none⟩) hgl).trans HLI.out
  obtain ⟨⟨u3, v8⟩, v6⟩ : (∃ v, Wa.cell? ⟨g3, k, none⟩ = some v) ∧ Wa.frozen? ⟨g3, k, none⟩ = false := by
    rw [hWa]
    have hr4 := HSR.out w3 g3 c3 (HO3.out.low (Nat.le_succ _))
    obtain ⟨g4, e4, _, hr5⟩ := hr4.row (by omega)
    obtain rfl : g3 = g4 := by injection e4 with e; injection e
    have hlen : k < ((LI lst).set i (.int .i32 vk)).length := by unfold LI; rw [List.length_set, List.length_map, HL.out]; exact hkl
    exact ⟨⟨_, hr5.cell (List.getElem?_eq_getElem hlen)⟩, hr5.frozen k⟩
  have HWa := Lib.hid hWa
  clear y1 y2 y3 y4 y5 y6 y7 y8 hWa hma
  go_upto_region 12 with (fail)
  obtain ⟨W4, hW4⟩ : ∃ W4, W4 = Wa.setCell ⟨g3, k, none⟩ (.int .i32 vi) := ⟨_, rfl⟩
  rw [show Wa.setCell ⟨g3, k, none⟩ (.int .i32 vi) = W4 from hW4.symm]
  rw [HWa.out] at hW4
  have hm4 : Mod (fun j => j = g3) w3 W4 := by rw [hW4]; exact Mod.setCell (S := fun j => j = g3) (Mod.setCell (S := fun j => j = g3) (Mod.refl _ _) (p := ⟨g3, i, none⟩) (.inl rfl) _) (p := ⟨g3, k, none⟩) (.inl rfl) _
  have hb4 : Blk W4 w.heap.size 92 #[.int .i64 (s : Nat), .int .i64 (p.1.wd : Nat), .int .i64 p.1.id, .slice (some ⟨gl, 0, none⟩) L p.2.c, .bool p.1.red, .int .i64 p.1.lbd, .int .i64 p.1.used, .bool p.1.dead] := HB3.out.mod hm4 n2
  have HO4 := Lib.hid (show App.Own W4 w.heap.size 26 (some ⟨g3, 0, none⟩) L c3 (LI l') from by rw [hW4]; exact HSL.out w3 g3 c3 (HO3.out.low (Nat.le_succ _)))
  have HBX := Lib.hid (show Below w.heap.size w W4 from HBW.out.trans (hm4.below (fun j hj e => by rw [e]; exact HG3.out.1) HBW.out.size))
  have HG4 := Lib.hid (show w.heap.size ≤ g3 ∧ g3 < W4.heap.size from ⟨HG3.out.1, Nat.lt_of_lt_of_le HG3.out.2 hm4.size⟩)
  have x1 := hb4.cell 3
  have x2 := hb4.frozen 3
  have HB4 := Lib.hid hb4
  clear hW4 hm4 hb4 v1 v3 v6 v8 HSL HB3 HBW HG3 HSR
  go_upto_region 13 with (fail)
  obtain ⟨W5, hW5⟩ : ∃ W5, W5 = W4.setCell ⟨w.heap.size, 3, none⟩ (.slice (some ⟨g3, 0, none⟩) L c3) := ⟨_, rfl⟩
  rw [show W4.setCell ⟨w.heap.size, 3, none⟩ (.slice (some ⟨g3, 0, none⟩) L c3) = W5 from hW5.symm]
  have hm5 : Mod (fun j => j = w.heap.size) W4 W5 := by rw [hW5]; exact Mod.setCell (S := fun j => j = w.heap.size) (Mod.refl _ _) (p := ⟨w.heap.size, 3, none⟩) (.inl rfl) _
  have hb5 : Blk W5 w.heap.size 92 #[.int .i64 (s : Nat), .int .i64 (p.1.wd : Nat), .int .i64 p.1.id, .slice (some ⟨g3, 0, none⟩) L c3, .bool p.1.red, .int .i64 p.1.lbd, .int .i64 p.1.used, .bool p.1.dead] := by rw [hW5]; exact Blk.set_ HB4.out 3 _
  have HO5 := Lib.hid (HO4.out.mod hm5 (fun j _ e e2 => n1 (by injection e with e; injection e with e; rw [e]; exact e2)))
  have hB5 : Below w.heap.size w W5 := HBX.out.trans (hm5.below (fun j hj e => by rw [e]; exact Nat.le_refl _) HBX.out.size)
  have HB5 := Lib.hid hB5
  have HG5 := Lib.hid (show w.heap.size ≤ g3 ∧ g3 < W5.heap.size from ⟨HG4.out.1, Nat.lt_of_lt_of_le HG4.out.2 hm5.size⟩)
  have g1 : W5.cell? ⟨gd, 1, none⟩ = some (.slice (some ⟨a, 0, none⟩) n c) := (hB5.cell (p := ⟨gd, 1, none⟩) hga).trans c1
  have cl := fun j v (hc : w.cell? ⟨a, m * 8 + j, none⟩ = some v) => (hB5.cell (p := ⟨a, m * 8 + j, none⟩) haa).trans hc
  have m0 : W5.cell? ⟨a, m * 8, none⟩ = _ := (hB5.cell (p := ⟨a, m * 8, none⟩) haa).trans d0
  have m1 := cl 1 _ d1
  have m2 := cl 2 _ d2
  have m3 := cl 3 _ d3
  have m4 := cl 4 _ d4
  have m5 := cl 5 _ d5
  have m6 := cl 6 _ d6
  have m7 := cl 7 _ d7
  have b0 : W5.cell? ⟨w.heap.size, 0, none⟩ = some (.int .i64 (s : Nat)) := hb5.cell 0
  have b1 : W5.cell? ⟨w.heap.size, 1, none⟩ = some (.int .i64 (p.1.wd : Nat)) := hb5.cell 1
  have b2 : W5.cell? ⟨w.heap.size, 2, none⟩ = some (.int .i64 p.1.id) := hb5.cell 2
  have b3 : W5.cell? ⟨w.heap.size, 3, none⟩ = some (.slice (some ⟨g3, 0, none⟩) L c3) := hb5.cell 3
  have b4 : W5.cell? ⟨w.heap.size, 4, none⟩ = some (.bool p.1.red) := hb5.cell 4
  have b5 : W5.cell? ⟨w.heap.size, 5, none⟩ = some (.int .i64 p.1.lbd) := hb5.cell 5
  have b6 : W5.cell? ⟨w.heap.size, 6, none⟩ = some (.int .i64 p.1.used) := hb5.cell 6
  have b7 : W5.cell? ⟨w.heap.size, 7, none⟩ = some (.bool p.1.dead) := hb5.cell 7
  have hfz : ∀ j, W5.frozen? ⟨a, j, none⟩ = false := fun j => by
    have := HFZ.out j
    unfold World.frozen? at this ⊢
    rw [hB5.block a haa]
    exact this
  have f0 := hfz (m * 8)
  have f1 := hfz (m * 8 + 1)
  have f2 := hfz (m * 8 + 2)
  have f3 := hfz (m * 8 + 3)
  have f4 := hfz (m * 8 + 4)
  have f5 := hfz (m * 8 + 5)
  have f6 := hfz (m * 8 + 6)
  have f7 := hfz (m * 8 + 7)
  clear cl hfz hW5 hm5 hb5 hB5 d0 d1 d2 d3 d4 d5 d6 d7 c1 x1 x2
  refine wp_region_still_tail 7 (by kernel_rfl) (by kernel_rfl) ?_
  change wpStill _ _ W5.drew _ _ _
  simp only [List.take_succ_cons, List.take_zero, List.drop_succ_cons, List.drop_zero]
  repeat still_step
  refine wpStill_nil ?_
  change wpList _ _ _ _ _ W5.drew
  go_wp2
  go_ret
  rw [HE.out]
  exact ⟨rfl, HFN.out W5 HB5.out g3 c3 HG5.out HO5.out⟩
end
end Go.Proofs.Ytenadnmglhghiaa.Ar
