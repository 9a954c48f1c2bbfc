/- A heap's Swap (printed by wip/tools/gen_hc.py). Conditions: the memory, two places of the row. -/
import Derived.Test.YtienomdennbkpaaHb
namespace Go.Proofs.Ytienomdennbkpaa.He
open Go.RowKit Go.Proofs.Ytienomdennbkpaa.Mem Go.Proofs.Ytienomdennbkpaa.Sl Go.Shelf
open Go.Proofs.Ytienomdennbkpaa.FnL (enc_at below_then)
open Go.Proofs.Ytienomdennbkpaa.Ko (wp_region_k wpAnyK wpAnyK_take wpAnyS_take wpAnyK_one wpAnyK_done wpOp_skip)
set_option linter.unusedVariables false
set_option linter.unusedSimpArgs false
attribute [local go_sem] Oper.semAt_some

set_option maxRecDepth 100000 in
set_option maxHeartbeats 4000000 in
theorem swap_any {w : World} {B N : Nat} {q : HA} {m : HM} (h : HR w B N q m) (i k : Nat) (hi : i < m.l.length) (hk : k < m.l.length) :
    Calls Try.prog 95 #[.pointer (some ⟨q.g, 0, none⟩), .int .i64 (i : Int), .int .i64 (k : Int)] w fun e w' => e = .returned (.tuple #[]) ∧ (∃ pl, HR w' B N q ⟨sw m.l i k, pl, m.s⟩) ∧ Mod (mine q) w w' := by
  have c0 : w.cell? ⟨q.g, 0, none⟩ = some (.slice q.iA m.l.length q.ic) := h.blk.cell 0
  have c1 : w.cell? ⟨q.g, 1, none⟩ = some (.slice (some ⟨q.p, 0, none⟩) (N + 1) q.pc) := h.blk.cell 1
  obtain ⟨a, eA, ci, fi⟩ := h.at_ hi
  obtain ⟨a', eA', ck, fk⟩ := h.at_ hk
  obtain rfl : a = a' := by rw [eA] at eA'; cases eA'; rfl
  have hN := h.hN
  have hl := h.lenN
  obtain ⟨x, hx, hx1, hx2⟩ := h.vf hi
  obtain ⟨y, hy, hy1, hy2⟩ := h.vf hk
  obtain ⟨n1, n2, n3⟩ := h.gi eA
  have n4 := h.gp
  have hix := fun e => h.ord.inj hi hk e
  rw [eA] at c0
  rw [hx] at ci
  rw [hy] at ck
  have e1 : (i : Int) < (m.l.length : Int) := by omega
  have e2 : (k : Int) < (m.l.length : Int) := by omega
  have px := h.pl_ hx2
  have py := h.pl_ hy2
  have fx := h.plr.frozen x
  have fy := h.plr.frozen y
  have HF := Lib.hid (fun W (hW : W = ((((w.setCell ⟨a, i, none⟩ (.int .i64 (y : Int))).setCell ⟨a, k, none⟩ (.int .i64 (x : Int))).setCell ⟨q.p, y, none⟩ (.int .i64 (i : Int))).setCell ⟨q.p, x, none⟩ (.int .i64 (k : Int))).drew.drew) => (show (∃ pl, HR W B N q ⟨sw m.l i k, pl, m.s⟩) ∧ Mod (mine q) w W from by
    subst hW
    have h1 := h.swap hi hk eA rfl
    rw [hx, hy, Int.toNat_natCast, Int.toNat_natCast] at h1
    exact ⟨⟨_, h1.1.drew.drew⟩, h1.2.drew.drew⟩))
  have hxy : x = y → i = k := fun e => hix (by rw [hx, hy, e])
  have hyx : i = k → x = y := fun e => by subst e; omega
  rw [hx, hy] at hix
  have HZ := Lib.hid (fun W1 (hW1 : W1 = ((w.setCell ⟨a, i, none⟩ (.int .i64 (y : Int))).setCell ⟨a, k, none⟩ (.int .i64 (x : Int)))) => (show
      (W1.cell? ⟨q.g, 0, none⟩ = some (.slice (some ⟨a, 0, none⟩) m.l.length q.ic) ∧ W1.cell? ⟨q.g, 1, none⟩ = some (.slice (some ⟨q.p, 0, none⟩) (N + 1) q.pc)) ∧ (W1.cell? ⟨a, i, none⟩ = some (.int .i64 (y : Int)) ∧ W1.cell? ⟨a, k, none⟩ = some (.int .i64 (x : Int))) ∧
      W1.cell? ⟨q.p, x, none⟩ = some (.int .i64 (m.pl.getD x 0)) ∧ W1.cell? ⟨q.p, y, none⟩ = some (.int .i64 (m.pl.getD y 0)) ∧ W1.frozen? ⟨q.p, x, none⟩ = false ∧ W1.frozen? ⟨q.p, y, none⟩ = false from by
    have hm : Mod (fun j => j = a) w W1 := by
      rw [hW1]
      exact (Mod.setCell (S := fun j => j = a) (Mod.refl _ _) (p := ⟨a, i, none⟩) (.inl rfl) _).setCell (p := ⟨a, k, none⟩) (.inl rfl) _
    have hb := h.blk.mod hm (fun e => n1 e.symm)
    have hp := h.plr.mod hm (fun e => n2 e.symm)
    have hr := (App.Own.set_ (App.Own.set_ (eA ▸ h.inn) i hi (.int .i64 (m.l.getD k 0))) k hk (.int .i64 (m.l.getD i 0))).row (by omega)
    rw [LZ_set, LZ_set] at hr
    obtain ⟨a2, e2, _, hr⟩ := hr
    cases e2
    have hr : Row _ a _ (LZ (sw m.l i k)) _ := hr
    have ri := hr.cell (LZ_at (i := i) (by rw [sw_len]; exact hi))
    have rk := hr.cell (LZ_at (i := k) (by rw [sw_len]; exact hk))
    rw [sw_at m.l hi hk] at ri rk
    rw [if_pos rfl, hx, hy] at rk
    rw [if_pos rfl, hx, hy] at ri
    have hri : (if i = k then (x : Int) else (y : Int)) = y := by
      by_cases e : i = k
      · rw [if_pos e]; have := hx.symm.trans (e ▸ hy); exact this
      · rw [if_neg e]
    rw [hri] at ri
    have b0 : W1.cell? ⟨q.g, 0, none⟩ = some (.slice q.iA m.l.length q.ic) := hb.cell 0
    rw [eA'] at b0
    rw [hW1]
    rw [hW1] at hb hp b0
    exact ⟨⟨b0, hb.cell 1⟩, ⟨ri, rk⟩, hp.cell (LZ_at (by rw [h.ord.len]; omega)), hp.cell (LZ_at (by rw [h.ord.len]; omega)), hp.frozen _, hp.frozen _⟩))
  have e3 : (x : Int) < (N : Int) + 1 := by omega
  have e4 : (y : Int) < (N : Int) + 1 := by omega
  have e5 : x < N + 1 := by omega
  have e6 : y < N + 1 := by omega
  generalize m.pl.getD x 0 = ox at *
  generalize m.pl.getD y 0 = oy at *
  generalize m.l.length = L at *
  clear h hx hy hix eA eA'
  go_enter Try.func95, Try.ntmps95
  go_wp2_with fail
  by_cases hik : i = k
  · obtain rfl := hyx hik
    subst hik
    clear hxy hyx
    have di2 : ∀ v, (w.setCell ⟨a, i, none⟩ v).cell? ⟨a, i, none⟩ = some v := fun v => World.cell?_setCell_same _ _ _ (by rw [ci])
    refine wp_region_noPanic ?_
    refine wp_region_k (fun _ => True) 25 (by kernel_rfl) ?_
    change wpAnyK _ _ _ _ _ _ _ 28 _ _ _
    refine wpAnyS_take (i := 0) (oi := ?o0a) (v := ?v0a) ?hi0a (by kernel_rfl) ?hQ0a ?hw0a trivial (fun _ => rfl) ?hy0a ?rest0a
    case hi0a => (simp only [List.getElem?_toArray, List.getElem?_cons_succ, List.getElem?_cons_zero]; exact rfl)
    case hQ0a => exact fun _ _ _ h => h
    case hw0a => rfl
    case hy0a => (intro w9 hw9; go_simp; try with_reducible rfl)
    simp only [Act.put, List.setIfInBounds_toArray, List.set_cons_zero, List.set_cons_succ]
    refine wpAnyS_take (i := 1) (oi := ?o1a) (v := ?v1a) ?hi1a (by kernel_rfl) ?hQ1a ?hw1a trivial (fun _ => rfl) ?hy1a ?rest1a
    case hi1a => (simp only [List.getElem?_toArray, List.getElem?_cons_succ, List.getElem?_cons_zero]; exact rfl)
    case hQ1a => exact fun _ _ _ h => h
    case hw1a => rfl
    case hy1a => (intro w9 hw9; go_simp; try with_reducible rfl)
    simp only [Act.put, List.setIfInBounds_toArray, List.set_cons_zero, List.set_cons_succ]
    refine wpAnyS_take (i := 2) (oi := ?o2a) (v := ?v2a) ?hi2a (by kernel_rfl) ?hQ2a ?hw2a trivial (fun _ => rfl) ?hy2a ?rest2a
    case hi2a => (simp only [List.getElem?_toArray, List.getElem?_cons_succ, List.getElem?_cons_zero]; exact rfl)
    case hQ2a => exact fun _ _ _ h => h
    case hw2a => rfl
    case hy2a => (intro w9 hw9; go_simp; try with_reducible rfl)
    simp only [Act.put, List.setIfInBounds_toArray, List.set_cons_zero, List.set_cons_succ]
    refine wpAnyK_take (i := 3) (oi := ?o3a) (v := ?v3a) ?hi3a (by kernel_rfl) ?hQ3a ?hw3a trivial ?hy3a ?rest3a
    case hi3a => (simp only [List.getElem?_toArray, List.getElem?_cons_succ, List.getElem?_cons_zero]; exact rfl)
    case hQ3a => exact fun _ _ _ h => h
    case hw3a => rfl
    case hy3a => (go_simp; try with_reducible rfl)
    simp only [Act.put, List.setIfInBounds_toArray, List.set_cons_zero, List.set_cons_succ]
    refine wpAnyS_take (i := 4) (oi := ?o4a) (v := ?v4a) ?hi4a (by kernel_rfl) ?hQ4a ?hw4a trivial (fun _ => rfl) ?hy4a ?rest4a
    case hi4a => (simp only [List.getElem?_toArray, List.getElem?_cons_succ, List.getElem?_cons_zero]; exact rfl)
    case hQ4a => exact fun _ _ _ h => h
    case hw4a => rfl
    case hy4a => (intro w9 hw9; go_simp; try with_reducible rfl)
    simp only [Act.put, List.setIfInBounds_toArray, List.set_cons_zero, List.set_cons_succ]
    refine wpAnyS_take (i := 5) (oi := ?o5a) (v := ?v5a) ?hi5a (by kernel_rfl) ?hQ5a ?hw5a trivial (fun _ => rfl) ?hy5a ?rest5a
    case hi5a => (simp only [List.getElem?_toArray, List.getElem?_cons_succ, List.getElem?_cons_zero]; exact rfl)
    case hQ5a => exact fun _ _ _ h => h
    case hw5a => rfl
    case hy5a => (intro w9 hw9; go_simp; try with_reducible rfl)
    simp only [Act.put, List.setIfInBounds_toArray, List.set_cons_zero, List.set_cons_succ]
    refine wpAnyS_take (i := 6) (oi := ?o6a) (v := ?v6a) ?hi6a (by kernel_rfl) ?hQ6a ?hw6a trivial (fun _ => rfl) ?hy6a ?rest6a
    case hi6a => (simp only [List.getElem?_toArray, List.getElem?_cons_succ, List.getElem?_cons_zero]; exact rfl)
    case hQ6a => exact fun _ _ _ h => h
    case hw6a => rfl
    case hy6a => (intro w9 hw9; go_simp; try with_reducible rfl)
    simp only [Act.put, List.setIfInBounds_toArray, List.set_cons_zero, List.set_cons_succ]
    refine wpAnyS_take (i := 7) (oi := ?o7a) (v := ?v7a) ?hi7a (by kernel_rfl) ?hQ7a ?hw7a trivial (fun _ => rfl) ?hy7a ?rest7a
    case hi7a => (simp only [List.getElem?_toArray, List.getElem?_cons_succ, List.getElem?_cons_zero]; exact rfl)
    case hQ7a => exact fun _ _ _ h => h
    case hw7a => rfl
    case hy7a => (intro w9 hw9; go_simp; try with_reducible rfl)
    simp only [Act.put, List.setIfInBounds_toArray, List.set_cons_zero, List.set_cons_succ]
    refine wpAnyK_take (i := 8) (oi := ?o8a) (v := ?v8a) ?hi8a (by kernel_rfl) ?hQ8a ?hw8a trivial ?hy8a ?rest8a
    case hi8a => (simp only [List.getElem?_toArray, List.getElem?_cons_succ, List.getElem?_cons_zero]; exact rfl)
    case hQ8a => exact fun _ _ _ h => h
    case hw8a => rfl
    case hy8a => (go_simp; try with_reducible rfl)
    simp only [Act.put, List.setIfInBounds_toArray, List.set_cons_zero, List.set_cons_succ]
    refine wpAnyS_take (i := 9) (oi := ?o9a) (v := ?v9a) ?hi9a (by kernel_rfl) ?hQ9a ?hw9a trivial (fun _ => rfl) ?hy9a ?rest9a
    case hi9a => (simp only [List.getElem?_toArray, List.getElem?_cons_succ, List.getElem?_cons_zero]; exact rfl)
    case hQ9a => exact fun _ _ _ h => h
    case hw9a => rfl
    case hy9a => (intro w9 hw9; go_simp; try with_reducible rfl)
    simp only [Act.put, List.setIfInBounds_toArray, List.set_cons_zero, List.set_cons_succ]
    refine wpAnyS_take (i := 10) (oi := ?o10a) (v := ?v10a) ?hi10a (by kernel_rfl) ?hQ10a ?hw10a trivial (fun _ => rfl) ?hy10a ?rest10a
    case hi10a => (simp only [List.getElem?_toArray, List.getElem?_cons_succ, List.getElem?_cons_zero]; exact rfl)
    case hQ10a => exact fun _ _ _ h => h
    case hw10a => rfl
    case hy10a => (intro w9 hw9; go_simp; try with_reducible rfl)
    simp only [Act.put, List.setIfInBounds_toArray, List.set_cons_zero, List.set_cons_succ]
    refine wpAnyS_take (i := 11) (oi := ?o11a) (v := ?v11a) ?hi11a (by kernel_rfl) ?hQ11a ?hw11a trivial (fun _ => rfl) ?hy11a ?rest11a
    case hi11a => (simp only [List.getElem?_toArray, List.getElem?_cons_succ, List.getElem?_cons_zero]; exact rfl)
    case hQ11a => exact fun _ _ _ h => h
    case hw11a => rfl
    case hy11a => (intro w9 hw9; go_simp; try with_reducible rfl)
    simp only [Act.put, List.setIfInBounds_toArray, List.set_cons_zero, List.set_cons_succ]
    refine wpAnyS_take (i := 12) (oi := ?o12a) (v := ?v12a) ?hi12a (by kernel_rfl) ?hQ12a ?hw12a trivial (fun _ => rfl) ?hy12a ?rest12a
    case hi12a => (simp only [List.getElem?_toArray, List.getElem?_cons_succ, List.getElem?_cons_zero]; exact rfl)
    case hQ12a => exact fun _ _ _ h => h
    case hw12a => rfl
    case hy12a => (intro w9 hw9; go_simp; try with_reducible rfl)
    simp only [Act.put, List.setIfInBounds_toArray, List.set_cons_zero, List.set_cons_succ]
    refine wpAnyK_take (i := 13) (oi := ?o13a) (v := ?v13a) ?hi13a (by kernel_rfl) ?hQ13a ?hw13a trivial ?hy13a ?rest13a
    case hi13a => (simp only [List.getElem?_toArray, List.getElem?_cons_succ, List.getElem?_cons_zero]; exact rfl)
    case hQ13a => exact fun _ _ _ h => h
    case hw13a => rfl
    case hy13a => (go_simp; try with_reducible rfl)
    simp only [Act.put, List.setIfInBounds_toArray, List.set_cons_zero, List.set_cons_succ]
    refine wpAnyS_take (i := 14) (oi := ?o14a) (v := ?v14a) ?hi14a (by kernel_rfl) ?hQ14a ?hw14a trivial (fun _ => rfl) ?hy14a ?rest14a
    case hi14a => (simp only [List.getElem?_toArray, List.getElem?_cons_succ, List.getElem?_cons_zero]; exact rfl)
    case hQ14a => exact fun _ _ _ h => h
    case hw14a => rfl
    case hy14a => (intro w9 hw9; go_simp; try with_reducible rfl)
    simp only [Act.put, List.setIfInBounds_toArray, List.set_cons_zero, List.set_cons_succ]
    refine wpAnyS_take (i := 15) (oi := ?o15a) (v := ?v15a) ?hi15a (by kernel_rfl) ?hQ15a ?hw15a trivial (fun _ => rfl) ?hy15a ?rest15a
    case hi15a => (simp only [List.getElem?_toArray, List.getElem?_cons_succ, List.getElem?_cons_zero]; exact rfl)
    case hQ15a => exact fun _ _ _ h => h
    case hw15a => rfl
    case hy15a => (intro w9 hw9; go_simp; try with_reducible rfl)
    simp only [Act.put, List.setIfInBounds_toArray, List.set_cons_zero, List.set_cons_succ]
    refine wpAnyK_take (i := 16) (oi := ?o16a) (v := ?v16a) ?hi16a (by kernel_rfl) ?hQ16a ?hw16a trivial ?hy16a ?rest16a
    case hi16a => (simp only [List.getElem?_toArray, List.getElem?_cons_succ, List.getElem?_cons_zero]; exact rfl)
    case hQ16a => exact fun _ _ _ h => h
    case hw16a => rfl
    case hy16a => (go_simp; try with_reducible rfl)
    simp only [Act.put, List.setIfInBounds_toArray, List.set_cons_zero, List.set_cons_succ]
    refine wpAnyS_take (i := 17) (oi := ?o17a) (v := ?v17a) ?hi17a (by kernel_rfl) ?hQ17a ?hw17a trivial (fun _ => rfl) ?hy17a ?rest17a
    case hi17a => (simp only [List.getElem?_toArray, List.getElem?_cons_succ, List.getElem?_cons_zero]; exact rfl)
    case hQ17a => exact fun _ _ _ h => h
    case hw17a => rfl
    case hy17a => (intro w9 hw9; go_simp; try with_reducible rfl)
    simp only [Act.put, List.setIfInBounds_toArray, List.set_cons_zero, List.set_cons_succ]
    refine wpAnyS_take (i := 18) (oi := ?o18a) (v := ?v18a) ?hi18a (by kernel_rfl) ?hQ18a ?hw18a trivial (fun _ => rfl) ?hy18a ?rest18a
    case hi18a => (simp only [List.getElem?_toArray, List.getElem?_cons_succ, List.getElem?_cons_zero]; exact rfl)
    case hQ18a => exact fun _ _ _ h => h
    case hw18a => rfl
    case hy18a => (intro w9 hw9; go_simp; try with_reducible rfl)
    simp only [Act.put, List.setIfInBounds_toArray, List.set_cons_zero, List.set_cons_succ]
    refine wpAnyS_take (i := 19) (oi := ?o19a) (v := ?v19a) ?hi19a (by kernel_rfl) ?hQ19a ?hw19a trivial (fun _ => rfl) ?hy19a ?rest19a
    case hi19a => (simp only [List.getElem?_toArray, List.getElem?_cons_succ, List.getElem?_cons_zero]; exact rfl)
    case hQ19a => exact fun _ _ _ h => h
    case hw19a => rfl
    case hy19a => (intro w9 hw9; go_simp; try with_reducible rfl)
    simp only [Act.put, List.setIfInBounds_toArray, List.set_cons_zero, List.set_cons_succ]
    refine wpAnyK_take (i := 20) (oi := ?o20a) (v := ?v20a) ?hi20a (by kernel_rfl) ?hQ20a ?hw20a trivial ?hy20a ?rest20a
    case hi20a => (simp only [List.getElem?_toArray, List.getElem?_cons_succ, List.getElem?_cons_zero]; exact rfl)
    case hQ20a => exact fun _ _ _ h => h
    case hw20a => rfl
    case hy20a => (go_simp; try with_reducible rfl)
    simp only [Act.put, List.setIfInBounds_toArray, List.set_cons_zero, List.set_cons_succ]
    refine wpAnyS_take (i := 21) (oi := ?o21a) (v := ?v21a) ?hi21a (by kernel_rfl) ?hQ21a ?hw21a trivial (fun _ => rfl) ?hy21a ?rest21a
    case hi21a => (simp only [List.getElem?_toArray, List.getElem?_cons_succ, List.getElem?_cons_zero]; exact rfl)
    case hQ21a => exact fun _ _ _ h => h
    case hw21a => rfl
    case hy21a => (intro w9 hw9; go_simp; try with_reducible rfl)
    simp only [Act.put, List.setIfInBounds_toArray, List.set_cons_zero, List.set_cons_succ]
    refine wpAnyS_take (i := 22) (oi := ?o22a) (v := ?v22a) ?hi22a (by kernel_rfl) ?hQ22a ?hw22a trivial (fun _ => rfl) ?hy22a ?rest22a
    case hi22a => (simp only [List.getElem?_toArray, List.getElem?_cons_succ, List.getElem?_cons_zero]; exact rfl)
    case hQ22a => exact fun _ _ _ h => h
    case hw22a => rfl
    case hy22a => (intro w9 hw9; go_simp; try with_reducible rfl)
    simp only [Act.put, List.setIfInBounds_toArray, List.set_cons_zero, List.set_cons_succ]
    refine wpAnyK_take (i := 23) (oi := ?o23a) (v := ?v23a) ?hi23a (by kernel_rfl) ?hQ23a ?hw23a trivial ?hy23a ?rest23a
    case hi23a => (simp only [List.getElem?_toArray, List.getElem?_cons_succ, List.getElem?_cons_zero]; exact rfl)
    case hQ23a => exact fun _ _ _ h => h
    case hw23a => rfl
    case hy23a => (go_simp; try with_reducible rfl)
    simp only [Act.put, List.setIfInBounds_toArray, List.set_cons_zero, List.set_cons_succ]
    refine wpAnyS_take (i := 24) (oi := ?o24a) (v := ?v24a) ?hi24a (by kernel_rfl) ?hQ24a ?hw24a trivial (fun _ => rfl) ?hy24a ?rest24a
    case hi24a => (simp only [List.getElem?_toArray, List.getElem?_cons_succ, List.getElem?_cons_zero]; exact rfl)
    case hQ24a => exact fun _ _ _ h => h
    case hw24a => rfl
    case hy24a => (intro w9 hw9; go_simp; try with_reducible rfl)
    simp only [Act.put, List.setIfInBounds_toArray, List.set_cons_zero, List.set_cons_succ]
    refine wpAnyK_one (i := 25) (by kernel_rfl) (by kernel_rfl) ?st25a
    refine wpOp_skip (o := ?os25a) (w' := ?ws25a) ?his25a ?hws25a ?hrs25a ?rs25a
    case his25a => (simp only [List.getElem?_toArray, List.getElem?_cons_succ, List.getElem?_cons_zero]; exact rfl)
    case hws25a => rfl
    case hrs25a => (go_simp; try with_reducible rfl)
    refine ⟨trivial, ?_⟩
    try simp only [Act.put, List.setIfInBounds_toArray, List.set_cons_zero, List.set_cons_succ]
    refine wpAnyS_take (i := 26) (oi := ?o26a) (v := ?v26a) ?hi26a (by kernel_rfl) ?hQ26a ?hw26a trivial (fun e => absurd e (by decide +kernel)) ?hy26a ?rest26a
    case hi26a => (simp only [List.getElem?_toArray, List.getElem?_cons_succ, List.getElem?_cons_zero]; exact rfl)
    case hQ26a => exact fun _ _ _ h => h
    case hw26a => rfl
    case hy26a => (intro w9 hw9; go_simp; try with_reducible rfl)
    simp only [Act.put, List.setIfInBounds_toArray, List.set_cons_zero, List.set_cons_succ]
    refine wpAnyK_one (i := 27) (by kernel_rfl) (by kernel_rfl) ?st27a
    refine wpOp_skip (o := ?os27a) (w' := ?ws27a) ?his27a ?hws27a ?hrs27a ?rs27a
    case his27a => (simp only [List.getElem?_toArray, List.getElem?_cons_succ, List.getElem?_cons_zero]; exact rfl)
    case hws27a => rfl
    case hrs27a => (go_simp; try with_reducible rfl)
    refine ⟨trivial, ?_⟩
    try simp only [Act.put, List.setIfInBounds_toArray, List.set_cons_zero, List.set_cons_succ]
    refine wpAnyK_done (by kernel_rfl) ?_ _
    refine NoPanic.normal ?_
    obtain ⟨W1, hW1⟩ : ∃ W1, W1 = ((w.setCell ⟨a, i, none⟩ (.int .i64 (x : Int))).setCell ⟨a, i, none⟩ (.int .i64 (x : Int))) := ⟨_, rfl⟩
    rw [← hW1]
    obtain ⟨z1, z2, zx, zy, gx, gy⟩ := HZ.out _ hW1
    have HF1 := Lib.hid (fun W (hW : W = ((W1.setCell ⟨q.p, x, none⟩ (.int .i64 (i : Int))).setCell ⟨q.p, x, none⟩ (.int .i64 (i : Int))).drew.drew) => HF.out W (by rw [hW, hW1]))
    clear hW1 HF HZ ci ck c0 c1 fi fk px py fx fy
    have hz : ∀ W v j, (fun (w' : World) => (w'.cell? ⟨q.g, 0, none⟩ = some (.slice (some ⟨a, 0, none⟩) L q.ic) ∧ w'.cell? ⟨q.g, 1, none⟩ = some (.slice (some ⟨q.p, 0, none⟩) (N + 1) q.pc)) ∧ w'.cell? ⟨a, i, none⟩ = some (.int .i64 (x : Int)) ∧ w'.cell? ⟨a, i, none⟩ = some (.int .i64 (x : Int))) W → (fun (w' : World) => (w'.cell? ⟨q.g, 0, none⟩ = some (.slice (some ⟨a, 0, none⟩) L q.ic) ∧ w'.cell? ⟨q.g, 1, none⟩ = some (.slice (some ⟨q.p, 0, none⟩) (N + 1) q.pc)) ∧ w'.cell? ⟨a, i, none⟩ = some (.int .i64 (x : Int)) ∧ w'.cell? ⟨a, i, none⟩ = some (.int .i64 (x : Int))) (W.setCell ⟨q.p, j, none⟩ v) := fun W v j h => ⟨⟨(World.cell?_setCell_far _ _ _ _ (Ne.symm n4)).trans h.1.1, (World.cell?_setCell_far _ _ _ _ (Ne.symm n4)).trans h.1.2⟩, (World.cell?_setCell_far _ _ _ _ (Ne.symm n2)).trans h.2.1, (World.cell?_setCell_far _ _ _ _ (Ne.symm n2)).trans h.2.2⟩
    have HZ0 := Lib.hid (show (fun (w' : World) => (w'.cell? ⟨q.g, 0, none⟩ = some (.slice (some ⟨a, 0, none⟩) L q.ic) ∧ w'.cell? ⟨q.g, 1, none⟩ = some (.slice (some ⟨q.p, 0, none⟩) (N + 1) q.pc)) ∧ w'.cell? ⟨a, i, none⟩ = some (.int .i64 (x : Int)) ∧ w'.cell? ⟨a, i, none⟩ = some (.int .i64 (x : Int))) W1 from ⟨z1, z2⟩)
    have HZ1 := Lib.hid hz
    clear z1 z2 hz
    have dx2 : ∀ v, (W1.setCell ⟨q.p, x, none⟩ v).cell? ⟨q.p, x, none⟩ = some v := fun v => World.cell?_setCell_same _ _ _ (by rw [zx])
    go_wp2_with fail
    refine wp_region_noPanic ?_
    refine wp_region_k (fun (w' : World) => (w'.cell? ⟨q.g, 0, none⟩ = some (.slice (some ⟨a, 0, none⟩) L q.ic) ∧ w'.cell? ⟨q.g, 1, none⟩ = some (.slice (some ⟨q.p, 0, none⟩) (N + 1) q.pc)) ∧ w'.cell? ⟨a, i, none⟩ = some (.int .i64 (x : Int)) ∧ w'.cell? ⟨a, i, none⟩ = some (.int .i64 (x : Int))) 25 (by kernel_rfl) ?_
    change wpAnyK _ _ _ _ _ _ _ 28 _ _ _
    refine wpAnyS_take (i := 0) (oi := ?o0b) (v := ?v0b) ?hi0b (by kernel_rfl) ?hQ0b ?hw0b HZ0.out (fun _ => rfl) ?hy0b ?rest0b
    case hi0b => (simp only [List.getElem?_toArray, List.getElem?_cons_succ, List.getElem?_cons_zero]; exact rfl)
    case hQ0b => exact fun _ _ _ h => h
    case hw0b => rfl
    case hy0b => (intro w9 hw9; obtain ⟨⟨z0, z1⟩, z2, z3⟩ := hw9; go_simp; try with_reducible rfl)
    simp only [Act.put, List.setIfInBounds_toArray, List.set_cons_zero, List.set_cons_succ]
    refine wpAnyS_take (i := 1) (oi := ?o1b) (v := ?v1b) ?hi1b (by kernel_rfl) ?hQ1b ?hw1b HZ0.out (fun _ => rfl) ?hy1b ?rest1b
    case hi1b => (simp only [List.getElem?_toArray, List.getElem?_cons_succ, List.getElem?_cons_zero]; exact rfl)
    case hQ1b => exact fun _ _ _ h => h
    case hw1b => rfl
    case hy1b => (intro w9 hw9; obtain ⟨⟨z0, z1⟩, z2, z3⟩ := hw9; go_simp; try with_reducible rfl)
    simp only [Act.put, List.setIfInBounds_toArray, List.set_cons_zero, List.set_cons_succ]
    refine wpAnyS_take (i := 2) (oi := ?o2b) (v := ?v2b) ?hi2b (by kernel_rfl) ?hQ2b ?hw2b HZ0.out (fun _ => rfl) ?hy2b ?rest2b
    case hi2b => (simp only [List.getElem?_toArray, List.getElem?_cons_succ, List.getElem?_cons_zero]; exact rfl)
    case hQ2b => exact fun _ _ _ h => h
    case hw2b => rfl
    case hy2b => (intro w9 hw9; obtain ⟨⟨z0, z1⟩, z2, z3⟩ := hw9; go_simp; try with_reducible rfl)
    simp only [Act.put, List.setIfInBounds_toArray, List.set_cons_zero, List.set_cons_succ]
    refine wpAnyS_take (i := 3) (oi := ?o3b) (v := ?v3b) ?hi3b (by kernel_rfl) ?hQ3b ?hw3b HZ0.out (fun _ => rfl) ?hy3b ?rest3b
    case hi3b => (simp only [List.getElem?_toArray, List.getElem?_cons_succ, List.getElem?_cons_zero]; exact rfl)
    case hQ3b => exact fun _ _ _ h => h
    case hw3b => rfl
    case hy3b => (intro w9 hw9; obtain ⟨⟨z0, z1⟩, z2, z3⟩ := hw9; go_simp; try with_reducible rfl)
    simp only [Act.put, List.setIfInBounds_toArray, List.set_cons_zero, List.set_cons_succ]
    refine wpAnyS_take (i := 4) (oi := ?o4b) (v := ?v4b) ?hi4b (by kernel_rfl) ?hQ4b ?hw4b HZ0.out (fun _ => rfl) ?hy4b ?rest4b
    case hi4b => (simp only [List.getElem?_toArray, List.getElem?_cons_succ, List.getElem?_cons_zero]; exact rfl)
    case hQ4b => exact fun _ _ _ h => h
    case hw4b => rfl
    case hy4b => (intro w9 hw9; obtain ⟨⟨z0, z1⟩, z2, z3⟩ := hw9; go_simp; try with_reducible rfl)
    simp only [Act.put, List.setIfInBounds_toArray, List.set_cons_zero, List.set_cons_succ]
    refine wpAnyS_take (i := 5) (oi := ?o5b) (v := ?v5b) ?hi5b (by kernel_rfl) ?hQ5b ?hw5b HZ0.out (fun _ => rfl) ?hy5b ?rest5b
    case hi5b => (simp only [List.getElem?_toArray, List.getElem?_cons_succ, List.getElem?_cons_zero]; exact rfl)
    case hQ5b => exact fun _ _ _ h => h
    case hw5b => rfl
    case hy5b => (intro w9 hw9; obtain ⟨⟨z0, z1⟩, z2, z3⟩ := hw9; go_simp; try with_reducible rfl)
    simp only [Act.put, List.setIfInBounds_toArray, List.set_cons_zero, List.set_cons_succ]
    refine wpAnyS_take (i := 6) (oi := ?o6b) (v := ?v6b) ?hi6b (by kernel_rfl) ?hQ6b ?hw6b HZ0.out (fun _ => rfl) ?hy6b ?rest6b
    case hi6b => (simp only [List.getElem?_toArray, List.getElem?_cons_succ, List.getElem?_cons_zero]; exact rfl)
    case hQ6b => exact fun _ _ _ h => h
    case hw6b => rfl
    case hy6b => (intro w9 hw9; obtain ⟨⟨z0, z1⟩, z2, z3⟩ := hw9; go_simp; try with_reducible rfl)
    simp only [Act.put, List.setIfInBounds_toArray, List.set_cons_zero, List.set_cons_succ]
    refine wpAnyS_take (i := 7) (oi := ?o7b) (v := ?v7b) ?hi7b (by kernel_rfl) ?hQ7b ?hw7b HZ0.out (fun _ => rfl) ?hy7b ?rest7b
    case hi7b => (simp only [List.getElem?_toArray, List.getElem?_cons_succ, List.getElem?_cons_zero]; exact rfl)
    case hQ7b => exact fun _ _ _ h => h
    case hw7b => rfl
    case hy7b => (intro w9 hw9; obtain ⟨⟨z0, z1⟩, z2, z3⟩ := hw9; go_simp; try with_reducible rfl)
    simp only [Act.put, List.setIfInBounds_toArray, List.set_cons_zero, List.set_cons_succ]
    refine wpAnyS_take (i := 8) (oi := ?o8b) (v := ?v8b) ?hi8b (by kernel_rfl) ?hQ8b ?hw8b HZ0.out (fun _ => rfl) ?hy8b ?rest8b
    case hi8b => (simp only [List.getElem?_toArray, List.getElem?_cons_succ, List.getElem?_cons_zero]; exact rfl)
    case hQ8b => exact fun _ _ _ h => h
    case hw8b => rfl
    case hy8b => (intro w9 hw9; obtain ⟨⟨z0, z1⟩, z2, z3⟩ := hw9; go_simp; try with_reducible rfl)
    simp only [Act.put, List.setIfInBounds_toArray, List.set_cons_zero, List.set_cons_succ]
    refine wpAnyS_take (i := 9) (oi := ?o9b) (v := ?v9b) ?hi9b (by kernel_rfl) ?hQ9b ?hw9b HZ0.out (fun _ => rfl) ?hy9b ?rest9b
    case hi9b => (simp only [List.getElem?_toArray, List.getElem?_cons_succ, List.getElem?_cons_zero]; exact rfl)
    case hQ9b => exact fun _ _ _ h => h
    case hw9b => rfl
    case hy9b => (intro w9 hw9; obtain ⟨⟨z0, z1⟩, z2, z3⟩ := hw9; go_simp; try with_reducible rfl)
    simp only [Act.put, List.setIfInBounds_toArray, List.set_cons_zero, List.set_cons_succ]
    refine wpAnyS_take (i := 10) (oi := ?o10b) (v := ?v10b) ?hi10b (by kernel_rfl) ?hQ10b ?hw10b HZ0.out (fun _ => rfl) ?hy10b ?rest10b
    case hi10b => (simp only [List.getElem?_toArray, List.getElem?_cons_succ, List.getElem?_cons_zero]; exact rfl)
    case hQ10b => exact fun _ _ _ h => h
    case hw10b => rfl
    case hy10b => (intro w9 hw9; obtain ⟨⟨z0, z1⟩, z2, z3⟩ := hw9; go_simp; try with_reducible rfl)
    simp only [Act.put, List.setIfInBounds_toArray, List.set_cons_zero, List.set_cons_succ]
    refine wpAnyS_take (i := 11) (oi := ?o11b) (v := ?v11b) ?hi11b (by kernel_rfl) ?hQ11b ?hw11b HZ0.out (fun _ => rfl) ?hy11b ?rest11b
    case hi11b => (simp only [List.getElem?_toArray, List.getElem?_cons_succ, List.getElem?_cons_zero]; exact rfl)
    case hQ11b => exact fun _ _ _ h => h
    case hw11b => rfl
    case hy11b => (intro w9 hw9; obtain ⟨⟨z0, z1⟩, z2, z3⟩ := hw9; go_simp; try with_reducible rfl)
    simp only [Act.put, List.setIfInBounds_toArray, List.set_cons_zero, List.set_cons_succ]
    refine wpAnyS_take (i := 12) (oi := ?o12b) (v := ?v12b) ?hi12b (by kernel_rfl) ?hQ12b ?hw12b HZ0.out (fun _ => rfl) ?hy12b ?rest12b
    case hi12b => (simp only [List.getElem?_toArray, List.getElem?_cons_succ, List.getElem?_cons_zero]; exact rfl)
    case hQ12b => exact fun _ _ _ h => h
    case hw12b => rfl
    case hy12b => (intro w9 hw9; obtain ⟨⟨z0, z1⟩, z2, z3⟩ := hw9; go_simp; try with_reducible rfl)
    simp only [Act.put, List.setIfInBounds_toArray, List.set_cons_zero, List.set_cons_succ]
    refine wpAnyS_take (i := 13) (oi := ?o13b) (v := ?v13b) ?hi13b (by kernel_rfl) ?hQ13b ?hw13b HZ0.out (fun _ => rfl) ?hy13b ?rest13b
    case hi13b => (simp only [List.getElem?_toArray, List.getElem?_cons_succ, List.getElem?_cons_zero]; exact rfl)
    case hQ13b => exact fun _ _ _ h => h
    case hw13b => rfl
    case hy13b => (intro w9 hw9; obtain ⟨⟨z0, z1⟩, z2, z3⟩ := hw9; go_simp; try with_reducible rfl)
    simp only [Act.put, List.setIfInBounds_toArray, List.set_cons_zero, List.set_cons_succ]
    refine wpAnyS_take (i := 14) (oi := ?o14b) (v := ?v14b) ?hi14b (by kernel_rfl) ?hQ14b ?hw14b HZ0.out (fun _ => rfl) ?hy14b ?rest14b
    case hi14b => (simp only [List.getElem?_toArray, List.getElem?_cons_succ, List.getElem?_cons_zero]; exact rfl)
    case hQ14b => exact fun _ _ _ h => h
    case hw14b => rfl
    case hy14b => (intro w9 hw9; obtain ⟨⟨z0, z1⟩, z2, z3⟩ := hw9; go_simp; try with_reducible rfl)
    simp only [Act.put, List.setIfInBounds_toArray, List.set_cons_zero, List.set_cons_succ]
    refine wpAnyS_take (i := 15) (oi := ?o15b) (v := ?v15b) ?hi15b (by kernel_rfl) ?hQ15b ?hw15b HZ0.out (fun _ => rfl) ?hy15b ?rest15b
    case hi15b => (simp only [List.getElem?_toArray, List.getElem?_cons_succ, List.getElem?_cons_zero]; exact rfl)
    case hQ15b => exact fun _ _ _ h => h
    case hw15b => rfl
    case hy15b => (intro w9 hw9; obtain ⟨⟨z0, z1⟩, z2, z3⟩ := hw9; go_simp; try with_reducible rfl)
    simp only [Act.put, List.setIfInBounds_toArray, List.set_cons_zero, List.set_cons_succ]
    refine wpAnyS_take (i := 16) (oi := ?o16b) (v := ?v16b) ?hi16b (by kernel_rfl) ?hQ16b ?hw16b HZ0.out (fun _ => rfl) ?hy16b ?rest16b
    case hi16b => (simp only [List.getElem?_toArray, List.getElem?_cons_succ, List.getElem?_cons_zero]; exact rfl)
    case hQ16b => exact fun _ _ _ h => h
    case hw16b => rfl
    case hy16b => (intro w9 hw9; obtain ⟨⟨z0, z1⟩, z2, z3⟩ := hw9; go_simp; try with_reducible rfl)
    simp only [Act.put, List.setIfInBounds_toArray, List.set_cons_zero, List.set_cons_succ]
    refine wpAnyS_take (i := 17) (oi := ?o17b) (v := ?v17b) ?hi17b (by kernel_rfl) ?hQ17b ?hw17b HZ0.out (fun _ => rfl) ?hy17b ?rest17b
    case hi17b => (simp only [List.getElem?_toArray, List.getElem?_cons_succ, List.getElem?_cons_zero]; exact rfl)
    case hQ17b => exact fun _ _ _ h => h
    case hw17b => rfl
    case hy17b => (intro w9 hw9; obtain ⟨⟨z0, z1⟩, z2, z3⟩ := hw9; go_simp; try with_reducible rfl)
    simp only [Act.put, List.setIfInBounds_toArray, List.set_cons_zero, List.set_cons_succ]
    refine wpAnyS_take (i := 18) (oi := ?o18b) (v := ?v18b) ?hi18b (by kernel_rfl) ?hQ18b ?hw18b HZ0.out (fun _ => rfl) ?hy18b ?rest18b
    case hi18b => (simp only [List.getElem?_toArray, List.getElem?_cons_succ, List.getElem?_cons_zero]; exact rfl)
    case hQ18b => exact fun _ _ _ h => h
    case hw18b => rfl
    case hy18b => (intro w9 hw9; obtain ⟨⟨z0, z1⟩, z2, z3⟩ := hw9; go_simp; try with_reducible rfl)
    simp only [Act.put, List.setIfInBounds_toArray, List.set_cons_zero, List.set_cons_succ]
    refine wpAnyS_take (i := 19) (oi := ?o19b) (v := ?v19b) ?hi19b (by kernel_rfl) ?hQ19b ?hw19b HZ0.out (fun _ => rfl) ?hy19b ?rest19b
    case hi19b => (simp only [List.getElem?_toArray, List.getElem?_cons_succ, List.getElem?_cons_zero]; exact rfl)
    case hQ19b => exact fun _ _ _ h => h
    case hw19b => rfl
    case hy19b => (intro w9 hw9; obtain ⟨⟨z0, z1⟩, z2, z3⟩ := hw9; go_simp; try with_reducible rfl)
    simp only [Act.put, List.setIfInBounds_toArray, List.set_cons_zero, List.set_cons_succ]
    refine wpAnyS_take (i := 20) (oi := ?o20b) (v := ?v20b) ?hi20b (by kernel_rfl) ?hQ20b ?hw20b HZ0.out (fun _ => rfl) ?hy20b ?rest20b
    case hi20b => (simp only [List.getElem?_toArray, List.getElem?_cons_succ, List.getElem?_cons_zero]; exact rfl)
    case hQ20b => exact fun _ _ _ h => h
    case hw20b => rfl
    case hy20b => (intro w9 hw9; obtain ⟨⟨z0, z1⟩, z2, z3⟩ := hw9; go_simp; try with_reducible rfl)
    simp only [Act.put, List.setIfInBounds_toArray, List.set_cons_zero, List.set_cons_succ]
    refine wpAnyS_take (i := 21) (oi := ?o21b) (v := ?v21b) ?hi21b (by kernel_rfl) ?hQ21b ?hw21b HZ0.out (fun _ => rfl) ?hy21b ?rest21b
    case hi21b => (simp only [List.getElem?_toArray, List.getElem?_cons_succ, List.getElem?_cons_zero]; exact rfl)
    case hQ21b => exact fun _ _ _ h => h
    case hw21b => rfl
    case hy21b => (intro w9 hw9; obtain ⟨⟨z0, z1⟩, z2, z3⟩ := hw9; go_simp; try with_reducible rfl)
    simp only [Act.put, List.setIfInBounds_toArray, List.set_cons_zero, List.set_cons_succ]
    refine wpAnyS_take (i := 22) (oi := ?o22b) (v := ?v22b) ?hi22b (by kernel_rfl) ?hQ22b ?hw22b HZ0.out (fun _ => rfl) ?hy22b ?rest22b
    case hi22b => (simp only [List.getElem?_toArray, List.getElem?_cons_succ, List.getElem?_cons_zero]; exact rfl)
    case hQ22b => exact fun _ _ _ h => h
    case hw22b => rfl
    case hy22b => (intro w9 hw9; obtain ⟨⟨z0, z1⟩, z2, z3⟩ := hw9; go_simp; try with_reducible rfl)
    simp only [Act.put, List.setIfInBounds_toArray, List.set_cons_zero, List.set_cons_succ]
    refine wpAnyS_take (i := 23) (oi := ?o23b) (v := ?v23b) ?hi23b (by kernel_rfl) ?hQ23b ?hw23b HZ0.out (fun _ => rfl) ?hy23b ?rest23b
    case hi23b => (simp only [List.getElem?_toArray, List.getElem?_cons_succ, List.getElem?_cons_zero]; exact rfl)
    case hQ23b => exact fun _ _ _ h => h
    case hw23b => rfl
    case hy23b => (intro w9 hw9; obtain ⟨⟨z0, z1⟩, z2, z3⟩ := hw9; go_simp; try with_reducible rfl)
    simp only [Act.put, List.setIfInBounds_toArray, List.set_cons_zero, List.set_cons_succ]
    refine wpAnyS_take (i := 24) (oi := ?o24b) (v := ?v24b) ?hi24b (by kernel_rfl) ?hQ24b ?hw24b HZ0.out (fun _ => rfl) ?hy24b ?rest24b
    case hi24b => (simp only [List.getElem?_toArray, List.getElem?_cons_succ, List.getElem?_cons_zero]; exact rfl)
    case hQ24b => exact fun _ _ _ h => h
    case hw24b => rfl
    case hy24b => (intro w9 hw9; obtain ⟨⟨z0, z1⟩, z2, z3⟩ := hw9; go_simp; try with_reducible rfl)
    simp only [Act.put, List.setIfInBounds_toArray, List.set_cons_zero, List.set_cons_succ]
    refine wpAnyK_one (i := 25) (by kernel_rfl) (by kernel_rfl) ?st25b
    refine wpOp_skip (o := ?os25b) (w' := ?ws25b) ?his25b ?hws25b ?hrs25b ?rs25b
    case his25b => (simp only [List.getElem?_toArray, List.getElem?_cons_succ, List.getElem?_cons_zero]; exact rfl)
    case hws25b => rfl
    case hrs25b => (go_simp; try with_reducible rfl)
    refine ⟨(by first | exact HZ1.out _ _ _ HZ0.out | exact HZ1.out _ _ _ (HZ1.out _ _ _ HZ0.out)), ?_⟩
    try simp only [Act.put, List.setIfInBounds_toArray, List.set_cons_zero, List.set_cons_succ]
    refine wpAnyS_take (i := 26) (oi := ?o26b) (v := ?v26b) ?hi26b (by kernel_rfl) ?hQ26b ?hw26b (by first | exact HZ1.out _ _ _ HZ0.out | exact HZ1.out _ _ _ (HZ1.out _ _ _ HZ0.out)) (fun e => absurd e (by decide +kernel)) ?hy26b ?rest26b
    case hi26b => (simp only [List.getElem?_toArray, List.getElem?_cons_succ, List.getElem?_cons_zero]; exact rfl)
    case hQ26b => exact fun _ _ _ h => h
    case hw26b => rfl
    case hy26b => (intro w9 hw9; obtain ⟨⟨z0, z1⟩, z2, z3⟩ := hw9; go_simp; try with_reducible rfl)
    simp only [Act.put, List.setIfInBounds_toArray, List.set_cons_zero, List.set_cons_succ]
    refine wpAnyK_one (i := 27) (by kernel_rfl) (by kernel_rfl) ?st27b
    refine wpOp_skip (o := ?os27b) (w' := ?ws27b) ?his27b ?hws27b ?hrs27b ?rs27b
    case his27b => (simp only [List.getElem?_toArray, List.getElem?_cons_succ, List.getElem?_cons_zero]; exact rfl)
    case hws27b => rfl
    case hrs27b => (go_simp; try with_reducible rfl)
    refine ⟨(by first | exact HZ1.out _ _ _ HZ0.out | exact HZ1.out _ _ _ (HZ1.out _ _ _ HZ0.out)), ?_⟩
    try simp only [Act.put, List.setIfInBounds_toArray, List.set_cons_zero, List.set_cons_succ]
    refine wpAnyK_done (by kernel_rfl) ?_ _
    refine NoPanic.normal ?_
    go_wp2
    go_end0
    exact ⟨rfl, HF1.out _ rfl⟩
  · have hxy2 : ¬ x = y := fun e => hik (hxy e)
    have hyx2 : ¬ y = x := fun e => hik (hxy e.symm)
    have hki : ¬ k = i := fun e => hik e.symm
    clear hxy hyx
    refine wp_region_noPanic ?_
    refine wp_region_k (fun _ => True) 25 (by kernel_rfl) ?_
    change wpAnyK _ _ _ _ _ _ _ 28 _ _ _
    refine wpAnyS_take (i := 0) (oi := ?o0c) (v := ?v0c) ?hi0c (by kernel_rfl) ?hQ0c ?hw0c trivial (fun _ => rfl) ?hy0c ?rest0c
    case hi0c => (simp only [List.getElem?_toArray, List.getElem?_cons_succ, List.getElem?_cons_zero]; exact rfl)
    case hQ0c => exact fun _ _ _ h => h
    case hw0c => rfl
    case hy0c => (intro w9 hw9; go_simp; try with_reducible rfl)
    simp only [Act.put, List.setIfInBounds_toArray, List.set_cons_zero, List.set_cons_succ]
    refine wpAnyS_take (i := 1) (oi := ?o1c) (v := ?v1c) ?hi1c (by kernel_rfl) ?hQ1c ?hw1c trivial (fun _ => rfl) ?hy1c ?rest1c
    case hi1c => (simp only [List.getElem?_toArray, List.getElem?_cons_succ, List.getElem?_cons_zero]; exact rfl)
    case hQ1c => exact fun _ _ _ h => h
    case hw1c => rfl
    case hy1c => (intro w9 hw9; go_simp; try with_reducible rfl)
    simp only [Act.put, List.setIfInBounds_toArray, List.set_cons_zero, List.set_cons_succ]
    refine wpAnyS_take (i := 2) (oi := ?o2c) (v := ?v2c) ?hi2c (by kernel_rfl) ?hQ2c ?hw2c trivial (fun _ => rfl) ?hy2c ?rest2c
    case hi2c => (simp only [List.getElem?_toArray, List.getElem?_cons_succ, List.getElem?_cons_zero]; exact rfl)
    case hQ2c => exact fun _ _ _ h => h
    case hw2c => rfl
    case hy2c => (intro w9 hw9; go_simp; try with_reducible rfl)
    simp only [Act.put, List.setIfInBounds_toArray, List.set_cons_zero, List.set_cons_succ]
    refine wpAnyK_take (i := 3) (oi := ?o3c) (v := ?v3c) ?hi3c (by kernel_rfl) ?hQ3c ?hw3c trivial ?hy3c ?rest3c
    case hi3c => (simp only [List.getElem?_toArray, List.getElem?_cons_succ, List.getElem?_cons_zero]; exact rfl)
    case hQ3c => exact fun _ _ _ h => h
    case hw3c => rfl
    case hy3c => (go_simp; try with_reducible rfl)
    simp only [Act.put, List.setIfInBounds_toArray, List.set_cons_zero, List.set_cons_succ]
    refine wpAnyS_take (i := 4) (oi := ?o4c) (v := ?v4c) ?hi4c (by kernel_rfl) ?hQ4c ?hw4c trivial (fun _ => rfl) ?hy4c ?rest4c
    case hi4c => (simp only [List.getElem?_toArray, List.getElem?_cons_succ, List.getElem?_cons_zero]; exact rfl)
    case hQ4c => exact fun _ _ _ h => h
    case hw4c => rfl
    case hy4c => (intro w9 hw9; go_simp; try with_reducible rfl)
    simp only [Act.put, List.setIfInBounds_toArray, List.set_cons_zero, List.set_cons_succ]
    refine wpAnyS_take (i := 5) (oi := ?o5c) (v := ?v5c) ?hi5c (by kernel_rfl) ?hQ5c ?hw5c trivial (fun _ => rfl) ?hy5c ?rest5c
    case hi5c => (simp only [List.getElem?_toArray, List.getElem?_cons_succ, List.getElem?_cons_zero]; exact rfl)
    case hQ5c => exact fun _ _ _ h => h
    case hw5c => rfl
    case hy5c => (intro w9 hw9; go_simp; try with_reducible rfl)
    simp only [Act.put, List.setIfInBounds_toArray, List.set_cons_zero, List.set_cons_succ]
    refine wpAnyS_take (i := 6) (oi := ?o6c) (v := ?v6c) ?hi6c (by kernel_rfl) ?hQ6c ?hw6c trivial (fun _ => rfl) ?hy6c ?rest6c
    case hi6c => (simp only [List.getElem?_toArray, List.getElem?_cons_succ, List.getElem?_cons_zero]; exact rfl)
    case hQ6c => exact fun _ _ _ h => h
    case hw6c => rfl
    case hy6c => (intro w9 hw9; go_simp; try with_reducible rfl)
    simp only [Act.put, List.setIfInBounds_toArray, List.set_cons_zero, List.set_cons_succ]
    refine wpAnyS_take (i := 7) (oi := ?o7c) (v := ?v7c) ?hi7c (by kernel_rfl) ?hQ7c ?hw7c trivial (fun _ => rfl) ?hy7c ?rest7c
    case hi7c => (simp only [List.getElem?_toArray, List.getElem?_cons_succ, List.getElem?_cons_zero]; exact rfl)
    case hQ7c => exact fun _ _ _ h => h
    case hw7c => rfl
    case hy7c => (intro w9 hw9; go_simp; try with_reducible rfl)
    simp only [Act.put, List.setIfInBounds_toArray, List.set_cons_zero, List.set_cons_succ]
    refine wpAnyK_take (i := 8) (oi := ?o8c) (v := ?v8c) ?hi8c (by kernel_rfl) ?hQ8c ?hw8c trivial ?hy8c ?rest8c
    case hi8c => (simp only [List.getElem?_toArray, List.getElem?_cons_succ, List.getElem?_cons_zero]; exact rfl)
    case hQ8c => exact fun _ _ _ h => h
    case hw8c => rfl
    case hy8c => (go_simp; try with_reducible rfl)
    simp only [Act.put, List.setIfInBounds_toArray, List.set_cons_zero, List.set_cons_succ]
    refine wpAnyS_take (i := 9) (oi := ?o9c) (v := ?v9c) ?hi9c (by kernel_rfl) ?hQ9c ?hw9c trivial (fun _ => rfl) ?hy9c ?rest9c
    case hi9c => (simp only [List.getElem?_toArray, List.getElem?_cons_succ, List.getElem?_cons_zero]; exact rfl)
    case hQ9c => exact fun _ _ _ h => h
    case hw9c => rfl
    case hy9c => (intro w9 hw9; go_simp; try with_reducible rfl)
    simp only [Act.put, List.setIfInBounds_toArray, List.set_cons_zero, List.set_cons_succ]
    refine wpAnyS_take (i := 10) (oi := ?o10c) (v := ?v10c) ?hi10c (by kernel_rfl) ?hQ10c ?hw10c trivial (fun _ => rfl) ?hy10c ?rest10c
    case hi10c => (simp only [List.getElem?_toArray, List.getElem?_cons_succ, List.getElem?_cons_zero]; exact rfl)
    case hQ10c => exact fun _ _ _ h => h
    case hw10c => rfl
    case hy10c => (intro w9 hw9; go_simp; try with_reducible rfl)
    simp only [Act.put, List.setIfInBounds_toArray, List.set_cons_zero, List.set_cons_succ]
    refine wpAnyS_take (i := 11) (oi := ?o11c) (v := ?v11c) ?hi11c (by kernel_rfl) ?hQ11c ?hw11c trivial (fun _ => rfl) ?hy11c ?rest11c
    case hi11c => (simp only [List.getElem?_toArray, List.getElem?_cons_succ, List.getElem?_cons_zero]; exact rfl)
    case hQ11c => exact fun _ _ _ h => h
    case hw11c => rfl
    case hy11c => (intro w9 hw9; go_simp; try with_reducible rfl)
    simp only [Act.put, List.setIfInBounds_toArray, List.set_cons_zero, List.set_cons_succ]
    refine wpAnyS_take (i := 12) (oi := ?o12c) (v := ?v12c) ?hi12c (by kernel_rfl) ?hQ12c ?hw12c trivial (fun _ => rfl) ?hy12c ?rest12c
    case hi12c => (simp only [List.getElem?_toArray, List.getElem?_cons_succ, List.getElem?_cons_zero]; exact rfl)
    case hQ12c => exact fun _ _ _ h => h
    case hw12c => rfl
    case hy12c => (intro w9 hw9; go_simp; try with_reducible rfl)
    simp only [Act.put, List.setIfInBounds_toArray, List.set_cons_zero, List.set_cons_succ]
    refine wpAnyK_take (i := 13) (oi := ?o13c) (v := ?v13c) ?hi13c (by kernel_rfl) ?hQ13c ?hw13c trivial ?hy13c ?rest13c
    case hi13c => (simp only [List.getElem?_toArray, List.getElem?_cons_succ, List.getElem?_cons_zero]; exact rfl)
    case hQ13c => exact fun _ _ _ h => h
    case hw13c => rfl
    case hy13c => (go_simp; try with_reducible rfl)
    simp only [Act.put, List.setIfInBounds_toArray, List.set_cons_zero, List.set_cons_succ]
    refine wpAnyS_take (i := 14) (oi := ?o14c) (v := ?v14c) ?hi14c (by kernel_rfl) ?hQ14c ?hw14c trivial (fun _ => rfl) ?hy14c ?rest14c
    case hi14c => (simp only [List.getElem?_toArray, List.getElem?_cons_succ, List.getElem?_cons_zero]; exact rfl)
    case hQ14c => exact fun _ _ _ h => h
    case hw14c => rfl
    case hy14c => (intro w9 hw9; go_simp; try with_reducible rfl)
    simp only [Act.put, List.setIfInBounds_toArray, List.set_cons_zero, List.set_cons_succ]
    refine wpAnyS_take (i := 15) (oi := ?o15c) (v := ?v15c) ?hi15c (by kernel_rfl) ?hQ15c ?hw15c trivial (fun _ => rfl) ?hy15c ?rest15c
    case hi15c => (simp only [List.getElem?_toArray, List.getElem?_cons_succ, List.getElem?_cons_zero]; exact rfl)
    case hQ15c => exact fun _ _ _ h => h
    case hw15c => rfl
    case hy15c => (intro w9 hw9; go_simp; try with_reducible rfl)
    simp only [Act.put, List.setIfInBounds_toArray, List.set_cons_zero, List.set_cons_succ]
    refine wpAnyK_take (i := 16) (oi := ?o16c) (v := ?v16c) ?hi16c (by kernel_rfl) ?hQ16c ?hw16c trivial ?hy16c ?rest16c
    case hi16c => (simp only [List.getElem?_toArray, List.getElem?_cons_succ, List.getElem?_cons_zero]; exact rfl)
    case hQ16c => exact fun _ _ _ h => h
    case hw16c => rfl
    case hy16c => (go_simp; try with_reducible rfl)
    simp only [Act.put, List.setIfInBounds_toArray, List.set_cons_zero, List.set_cons_succ]
    refine wpAnyS_take (i := 17) (oi := ?o17c) (v := ?v17c) ?hi17c (by kernel_rfl) ?hQ17c ?hw17c trivial (fun _ => rfl) ?hy17c ?rest17c
    case hi17c => (simp only [List.getElem?_toArray, List.getElem?_cons_succ, List.getElem?_cons_zero]; exact rfl)
    case hQ17c => exact fun _ _ _ h => h
    case hw17c => rfl
    case hy17c => (intro w9 hw9; go_simp; try with_reducible rfl)
    simp only [Act.put, List.setIfInBounds_toArray, List.set_cons_zero, List.set_cons_succ]
    refine wpAnyS_take (i := 18) (oi := ?o18c) (v := ?v18c) ?hi18c (by kernel_rfl) ?hQ18c ?hw18c trivial (fun _ => rfl) ?hy18c ?rest18c
    case hi18c => (simp only [List.getElem?_toArray, List.getElem?_cons_succ, List.getElem?_cons_zero]; exact rfl)
    case hQ18c => exact fun _ _ _ h => h
    case hw18c => rfl
    case hy18c => (intro w9 hw9; go_simp; try with_reducible rfl)
    simp only [Act.put, List.setIfInBounds_toArray, List.set_cons_zero, List.set_cons_succ]
    refine wpAnyS_take (i := 19) (oi := ?o19c) (v := ?v19c) ?hi19c (by kernel_rfl) ?hQ19c ?hw19c trivial (fun _ => rfl) ?hy19c ?rest19c
    case hi19c => (simp only [List.getElem?_toArray, List.getElem?_cons_succ, List.getElem?_cons_zero]; exact rfl)
    case hQ19c => exact fun _ _ _ h => h
    case hw19c => rfl
    case hy19c => (intro w9 hw9; go_simp; try with_reducible rfl)
    simp only [Act.put, List.setIfInBounds_toArray, List.set_cons_zero, List.set_cons_succ]
    refine wpAnyK_take (i := 20) (oi := ?o20c) (v := ?v20c) ?hi20c (by kernel_rfl) ?hQ20c ?hw20c trivial ?hy20c ?rest20c
    case hi20c => (simp only [List.getElem?_toArray, List.getElem?_cons_succ, List.getElem?_cons_zero]; exact rfl)
    case hQ20c => exact fun _ _ _ h => h
    case hw20c => rfl
    case hy20c => (go_simp; try with_reducible rfl)
    simp only [Act.put, List.setIfInBounds_toArray, List.set_cons_zero, List.set_cons_succ]
    refine wpAnyS_take (i := 21) (oi := ?o21c) (v := ?v21c) ?hi21c (by kernel_rfl) ?hQ21c ?hw21c trivial (fun _ => rfl) ?hy21c ?rest21c
    case hi21c => (simp only [List.getElem?_toArray, List.getElem?_cons_succ, List.getElem?_cons_zero]; exact rfl)
    case hQ21c => exact fun _ _ _ h => h
    case hw21c => rfl
    case hy21c => (intro w9 hw9; go_simp; try with_reducible rfl)
    simp only [Act.put, List.setIfInBounds_toArray, List.set_cons_zero, List.set_cons_succ]
    refine wpAnyS_take (i := 22) (oi := ?o22c) (v := ?v22c) ?hi22c (by kernel_rfl) ?hQ22c ?hw22c trivial (fun _ => rfl) ?hy22c ?rest22c
    case hi22c => (simp only [List.getElem?_toArray, List.getElem?_cons_succ, List.getElem?_cons_zero]; exact rfl)
    case hQ22c => exact fun _ _ _ h => h
    case hw22c => rfl
    case hy22c => (intro w9 hw9; go_simp; try with_reducible rfl)
    simp only [Act.put, List.setIfInBounds_toArray, List.set_cons_zero, List.set_cons_succ]
    refine wpAnyK_take (i := 23) (oi := ?o23c) (v := ?v23c) ?hi23c (by kernel_rfl) ?hQ23c ?hw23c trivial ?hy23c ?rest23c
    case hi23c => (simp only [List.getElem?_toArray, List.getElem?_cons_succ, List.getElem?_cons_zero]; exact rfl)
    case hQ23c => exact fun _ _ _ h => h
    case hw23c => rfl
    case hy23c => (go_simp; try with_reducible rfl)
    simp only [Act.put, List.setIfInBounds_toArray, List.set_cons_zero, List.set_cons_succ]
    refine wpAnyS_take (i := 24) (oi := ?o24c) (v := ?v24c) ?hi24c (by kernel_rfl) ?hQ24c ?hw24c trivial (fun _ => rfl) ?hy24c ?rest24c
    case hi24c => (simp only [List.getElem?_toArray, List.getElem?_cons_succ, List.getElem?_cons_zero]; exact rfl)
    case hQ24c => exact fun _ _ _ h => h
    case hw24c => rfl
    case hy24c => (intro w9 hw9; go_simp; try with_reducible rfl)
    simp only [Act.put, List.setIfInBounds_toArray, List.set_cons_zero, List.set_cons_succ]
    refine wpAnyK_one (i := 25) (by kernel_rfl) (by kernel_rfl) ?st25c
    refine wpOp_skip (o := ?os25c) (w' := ?ws25c) ?his25c ?hws25c ?hrs25c ?rs25c
    case his25c => (simp only [List.getElem?_toArray, List.getElem?_cons_succ, List.getElem?_cons_zero]; exact rfl)
    case hws25c => rfl
    case hrs25c => (go_simp; try with_reducible rfl)
    refine ⟨trivial, ?_⟩
    try simp only [Act.put, List.setIfInBounds_toArray, List.set_cons_zero, List.set_cons_succ]
    refine wpAnyS_take (i := 26) (oi := ?o26c) (v := ?v26c) ?hi26c (by kernel_rfl) ?hQ26c ?hw26c trivial (fun e => absurd e (by decide +kernel)) ?hy26c ?rest26c
    case hi26c => (simp only [List.getElem?_toArray, List.getElem?_cons_succ, List.getElem?_cons_zero]; exact rfl)
    case hQ26c => exact fun _ _ _ h => h
    case hw26c => rfl
    case hy26c => (intro w9 hw9; go_simp; try with_reducible rfl)
    simp only [Act.put, List.setIfInBounds_toArray, List.set_cons_zero, List.set_cons_succ]
    refine wpAnyK_one (i := 27) (by kernel_rfl) (by kernel_rfl) ?st27c
    refine wpOp_skip (o := ?os27c) (w' := ?ws27c) ?his27c ?hws27c ?hrs27c ?rs27c
    case his27c => (simp only [List.getElem?_toArray, List.getElem?_cons_succ, List.getElem?_cons_zero]; exact rfl)
    case hws27c => rfl
    case hrs27c => (go_simp; try with_reducible rfl)
    refine ⟨trivial, ?_⟩
    try simp only [Act.put, List.setIfInBounds_toArray, List.set_cons_zero, List.set_cons_succ]
    refine wpAnyK_done (by kernel_rfl) ?_ _
    refine NoPanic.normal ?_
    obtain ⟨W1, hW1⟩ : ∃ W1, W1 = ((w.setCell ⟨a, i, none⟩ (.int .i64 (y : Int))).setCell ⟨a, k, none⟩ (.int .i64 (x : Int))) := ⟨_, rfl⟩
    rw [← hW1]
    obtain ⟨z1, z2, zx, zy, gx, gy⟩ := HZ.out _ hW1
    have HF1 := Lib.hid (fun W (hW : W = ((W1.setCell ⟨q.p, y, none⟩ (.int .i64 (i : Int))).setCell ⟨q.p, x, none⟩ (.int .i64 (k : Int))).drew.drew) => HF.out W (by rw [hW, hW1]))
    clear hW1 HF HZ ci ck c0 c1 fi fk px py fx fy
    have hz : ∀ W v j, (fun (w' : World) => (w'.cell? ⟨q.g, 0, none⟩ = some (.slice (some ⟨a, 0, none⟩) L q.ic) ∧ w'.cell? ⟨q.g, 1, none⟩ = some (.slice (some ⟨q.p, 0, none⟩) (N + 1) q.pc)) ∧ w'.cell? ⟨a, i, none⟩ = some (.int .i64 (y : Int)) ∧ w'.cell? ⟨a, k, none⟩ = some (.int .i64 (x : Int))) W → (fun (w' : World) => (w'.cell? ⟨q.g, 0, none⟩ = some (.slice (some ⟨a, 0, none⟩) L q.ic) ∧ w'.cell? ⟨q.g, 1, none⟩ = some (.slice (some ⟨q.p, 0, none⟩) (N + 1) q.pc)) ∧ w'.cell? ⟨a, i, none⟩ = some (.int .i64 (y : Int)) ∧ w'.cell? ⟨a, k, none⟩ = some (.int .i64 (x : Int))) (W.setCell ⟨q.p, j, none⟩ v) := fun W v j h => ⟨⟨(World.cell?_setCell_far _ _ _ _ (Ne.symm n4)).trans h.1.1, (World.cell?_setCell_far _ _ _ _ (Ne.symm n4)).trans h.1.2⟩, (World.cell?_setCell_far _ _ _ _ (Ne.symm n2)).trans h.2.1, (World.cell?_setCell_far _ _ _ _ (Ne.symm n2)).trans h.2.2⟩
    have HZ0 := Lib.hid (show (fun (w' : World) => (w'.cell? ⟨q.g, 0, none⟩ = some (.slice (some ⟨a, 0, none⟩) L q.ic) ∧ w'.cell? ⟨q.g, 1, none⟩ = some (.slice (some ⟨q.p, 0, none⟩) (N + 1) q.pc)) ∧ w'.cell? ⟨a, i, none⟩ = some (.int .i64 (y : Int)) ∧ w'.cell? ⟨a, k, none⟩ = some (.int .i64 (x : Int))) W1 from ⟨z1, z2⟩)
    have HZ1 := Lib.hid hz
    clear z1 z2 hz
    go_wp2_with fail
    refine wp_region_noPanic ?_
    refine wp_region_k (fun (w' : World) => (w'.cell? ⟨q.g, 0, none⟩ = some (.slice (some ⟨a, 0, none⟩) L q.ic) ∧ w'.cell? ⟨q.g, 1, none⟩ = some (.slice (some ⟨q.p, 0, none⟩) (N + 1) q.pc)) ∧ w'.cell? ⟨a, i, none⟩ = some (.int .i64 (y : Int)) ∧ w'.cell? ⟨a, k, none⟩ = some (.int .i64 (x : Int))) 25 (by kernel_rfl) ?_
    change wpAnyK _ _ _ _ _ _ _ 28 _ _ _
    refine wpAnyS_take (i := 0) (oi := ?o0d) (v := ?v0d) ?hi0d (by kernel_rfl) ?hQ0d ?hw0d HZ0.out (fun _ => rfl) ?hy0d ?rest0d
    case hi0d => (simp only [List.getElem?_toArray, List.getElem?_cons_succ, List.getElem?_cons_zero]; exact rfl)
    case hQ0d => exact fun _ _ _ h => h
    case hw0d => rfl
    case hy0d => (intro w9 hw9; obtain ⟨⟨z0, z1⟩, z2, z3⟩ := hw9; go_simp; try with_reducible rfl)
    simp only [Act.put, List.setIfInBounds_toArray, List.set_cons_zero, List.set_cons_succ]
    refine wpAnyS_take (i := 1) (oi := ?o1d) (v := ?v1d) ?hi1d (by kernel_rfl) ?hQ1d ?hw1d HZ0.out (fun _ => rfl) ?hy1d ?rest1d
    case hi1d => (simp only [List.getElem?_toArray, List.getElem?_cons_succ, List.getElem?_cons_zero]; exact rfl)
    case hQ1d => exact fun _ _ _ h => h
    case hw1d => rfl
    case hy1d => (intro w9 hw9; obtain ⟨⟨z0, z1⟩, z2, z3⟩ := hw9; go_simp; try with_reducible rfl)
    simp only [Act.put, List.setIfInBounds_toArray, List.set_cons_zero, List.set_cons_succ]
    refine wpAnyS_take (i := 2) (oi := ?o2d) (v := ?v2d) ?hi2d (by kernel_rfl) ?hQ2d ?hw2d HZ0.out (fun _ => rfl) ?hy2d ?rest2d
    case hi2d => (simp only [List.getElem?_toArray, List.getElem?_cons_succ, List.getElem?_cons_zero]; exact rfl)
    case hQ2d => exact fun _ _ _ h => h
    case hw2d => rfl
    case hy2d => (intro w9 hw9; obtain ⟨⟨z0, z1⟩, z2, z3⟩ := hw9; go_simp; try with_reducible rfl)
    simp only [Act.put, List.setIfInBounds_toArray, List.set_cons_zero, List.set_cons_succ]
    refine wpAnyS_take (i := 3) (oi := ?o3d) (v := ?v3d) ?hi3d (by kernel_rfl) ?hQ3d ?hw3d HZ0.out (fun _ => rfl) ?hy3d ?rest3d
    case hi3d => (simp only [List.getElem?_toArray, List.getElem?_cons_succ, List.getElem?_cons_zero]; exact rfl)
    case hQ3d => exact fun _ _ _ h => h
    case hw3d => rfl
    case hy3d => (intro w9 hw9; obtain ⟨⟨z0, z1⟩, z2, z3⟩ := hw9; go_simp; try with_reducible rfl)
    simp only [Act.put, List.setIfInBounds_toArray, List.set_cons_zero, List.set_cons_succ]
    refine wpAnyS_take (i := 4) (oi := ?o4d) (v := ?v4d) ?hi4d (by kernel_rfl) ?hQ4d ?hw4d HZ0.out (fun _ => rfl) ?hy4d ?rest4d
    case hi4d => (simp only [List.getElem?_toArray, List.getElem?_cons_succ, List.getElem?_cons_zero]; exact rfl)
    case hQ4d => exact fun _ _ _ h => h
    case hw4d => rfl
    case hy4d => (intro w9 hw9; obtain ⟨⟨z0, z1⟩, z2, z3⟩ := hw9; go_simp; try with_reducible rfl)
    simp only [Act.put, List.setIfInBounds_toArray, List.set_cons_zero, List.set_cons_succ]
    refine wpAnyS_take (i := 5) (oi := ?o5d) (v := ?v5d) ?hi5d (by kernel_rfl) ?hQ5d ?hw5d HZ0.out (fun _ => rfl) ?hy5d ?rest5d
    case hi5d => (simp only [List.getElem?_toArray, List.getElem?_cons_succ, List.getElem?_cons_zero]; exact rfl)
    case hQ5d => exact fun _ _ _ h => h
    case hw5d => rfl
    case hy5d => (intro w9 hw9; obtain ⟨⟨z0, z1⟩, z2, z3⟩ := hw9; go_simp; try with_reducible rfl)
    simp only [Act.put, List.setIfInBounds_toArray, List.set_cons_zero, List.set_cons_succ]
    refine wpAnyS_take (i := 6) (oi := ?o6d) (v := ?v6d) ?hi6d (by kernel_rfl) ?hQ6d ?hw6d HZ0.out (fun _ => rfl) ?hy6d ?rest6d
    case hi6d => (simp only [List.getElem?_toArray, List.getElem?_cons_succ, List.getElem?_cons_zero]; exact rfl)
    case hQ6d => exact fun _ _ _ h => h
    case hw6d => rfl
    case hy6d => (intro w9 hw9; obtain ⟨⟨z0, z1⟩, z2, z3⟩ := hw9; go_simp; try with_reducible rfl)
    simp only [Act.put, List.setIfInBounds_toArray, List.set_cons_zero, List.set_cons_succ]
    refine wpAnyS_take (i := 7) (oi := ?o7d) (v := ?v7d) ?hi7d (by kernel_rfl) ?hQ7d ?hw7d HZ0.out (fun _ => rfl) ?hy7d ?rest7d
    case hi7d => (simp only [List.getElem?_toArray, List.getElem?_cons_succ, List.getElem?_cons_zero]; exact rfl)
    case hQ7d => exact fun _ _ _ h => h
    case hw7d => rfl
    case hy7d => (intro w9 hw9; obtain ⟨⟨z0, z1⟩, z2, z3⟩ := hw9; go_simp; try with_reducible rfl)
    simp only [Act.put, List.setIfInBounds_toArray, List.set_cons_zero, List.set_cons_succ]
    refine wpAnyS_take (i := 8) (oi := ?o8d) (v := ?v8d) ?hi8d (by kernel_rfl) ?hQ8d ?hw8d HZ0.out (fun _ => rfl) ?hy8d ?rest8d
    case hi8d => (simp only [List.getElem?_toArray, List.getElem?_cons_succ, List.getElem?_cons_zero]; exact rfl)
    case hQ8d => exact fun _ _ _ h => h
    case hw8d => rfl
    case hy8d => (intro w9 hw9; obtain ⟨⟨z0, z1⟩, z2, z3⟩ := hw9; go_simp; try with_reducible rfl)
    simp only [Act.put, List.setIfInBounds_toArray, List.set_cons_zero, List.set_cons_succ]
    refine wpAnyS_take (i := 9) (oi := ?o9d) (v := ?v9d) ?hi9d (by kernel_rfl) ?hQ9d ?hw9d HZ0.out (fun _ => rfl) ?hy9d ?rest9d
    case hi9d => (simp only [List.getElem?_toArray, List.getElem?_cons_succ, List.getElem?_cons_zero]; exact rfl)
    case hQ9d => exact fun _ _ _ h => h
    case hw9d => rfl
    case hy9d => (intro w9 hw9; obtain ⟨⟨z0, z1⟩, z2, z3⟩ := hw9; go_simp; try with_reducible rfl)
    simp only [Act.put, List.setIfInBounds_toArray, List.set_cons_zero, List.set_cons_succ]
    refine wpAnyS_take (i := 10) (oi := ?o10d) (v := ?v10d) ?hi10d (by kernel_rfl) ?hQ10d ?hw10d HZ0.out (fun _ => rfl) ?hy10d ?rest10d
    case hi10d => (simp only [List.getElem?_toArray, List.getElem?_cons_succ, List.getElem?_cons_zero]; exact rfl)
    case hQ10d => exact fun _ _ _ h => h
    case hw10d => rfl
    case hy10d => (intro w9 hw9; obtain ⟨⟨z0, z1⟩, z2, z3⟩ := hw9; go_simp; try with_reducible rfl)
    simp only [Act.put, List.setIfInBounds_toArray, List.set_cons_zero, List.set_cons_succ]
    refine wpAnyS_take (i := 11) (oi := ?o11d) (v := ?v11d) ?hi11d (by kernel_rfl) ?hQ11d ?hw11d HZ0.out (fun _ => rfl) ?hy11d ?rest11d
    case hi11d => (simp only [List.getElem?_toArray, List.getElem?_cons_succ, List.getElem?_cons_zero]; exact rfl)
    case hQ11d => exact fun _ _ _ h => h
    case hw11d => rfl
    case hy11d => (intro w9 hw9; obtain ⟨⟨z0, z1⟩, z2, z3⟩ := hw9; go_simp; try with_reducible rfl)
    simp only [Act.put, List.setIfInBounds_toArray, List.set_cons_zero, List.set_cons_succ]
    refine wpAnyS_take (i := 12) (oi := ?o12d) (v := ?v12d) ?hi12d (by kernel_rfl) ?hQ12d ?hw12d HZ0.out (fun _ => rfl) ?hy12d ?rest12d
    case hi12d => (simp only [List.getElem?_toArray, List.getElem?_cons_succ, List.getElem?_cons_zero]; exact rfl)
    case hQ12d => exact fun _ _ _ h => h
    case hw12d => rfl
    case hy12d => (intro w9 hw9; obtain ⟨⟨z0, z1⟩, z2, z3⟩ := hw9; go_simp; try with_reducible rfl)
    simp only [Act.put, List.setIfInBounds_toArray, List.set_cons_zero, List.set_cons_succ]
    refine wpAnyS_take (i := 13) (oi := ?o13d) (v := ?v13d) ?hi13d (by kernel_rfl) ?hQ13d ?hw13d HZ0.out (fun _ => rfl) ?hy13d ?rest13d
    case hi13d => (simp only [List.getElem?_toArray, List.getElem?_cons_succ, List.getElem?_cons_zero]; exact rfl)
    case hQ13d => exact fun _ _ _ h => h
    case hw13d => rfl
    case hy13d => (intro w9 hw9; obtain ⟨⟨z0, z1⟩, z2, z3⟩ := hw9; go_simp; try with_reducible rfl)
    simp only [Act.put, List.setIfInBounds_toArray, List.set_cons_zero, List.set_cons_succ]
    refine wpAnyS_take (i := 14) (oi := ?o14d) (v := ?v14d) ?hi14d (by kernel_rfl) ?hQ14d ?hw14d HZ0.out (fun _ => rfl) ?hy14d ?rest14d
    case hi14d => (simp only [List.getElem?_toArray, List.getElem?_cons_succ, List.getElem?_cons_zero]; exact rfl)
    case hQ14d => exact fun _ _ _ h => h
    case hw14d => rfl
    case hy14d => (intro w9 hw9; obtain ⟨⟨z0, z1⟩, z2, z3⟩ := hw9; go_simp; try with_reducible rfl)
    simp only [Act.put, List.setIfInBounds_toArray, List.set_cons_zero, List.set_cons_succ]
    refine wpAnyS_take (i := 15) (oi := ?o15d) (v := ?v15d) ?hi15d (by kernel_rfl) ?hQ15d ?hw15d HZ0.out (fun _ => rfl) ?hy15d ?rest15d
    case hi15d => (simp only [List.getElem?_toArray, List.getElem?_cons_succ, List.getElem?_cons_zero]; exact rfl)
    case hQ15d => exact fun _ _ _ h => h
    case hw15d => rfl
    case hy15d => (intro w9 hw9; obtain ⟨⟨z0, z1⟩, z2, z3⟩ := hw9; go_simp; try with_reducible rfl)
    simp only [Act.put, List.setIfInBounds_toArray, List.set_cons_zero, List.set_cons_succ]
    refine wpAnyS_take (i := 16) (oi := ?o16d) (v := ?v16d) ?hi16d (by kernel_rfl) ?hQ16d ?hw16d HZ0.out (fun _ => rfl) ?hy16d ?rest16d
    case hi16d => (simp only [List.getElem?_toArray, List.getElem?_cons_succ, List.getElem?_cons_zero]; exact rfl)
    case hQ16d => exact fun _ _ _ h => h
    case hw16d => rfl
    case hy16d => (intro w9 hw9; obtain ⟨⟨z0, z1⟩, z2, z3⟩ := hw9; go_simp; try with_reducible rfl)
    simp only [Act.put, List.setIfInBounds_toArray, List.set_cons_zero, List.set_cons_succ]
    refine wpAnyS_take (i := 17) (oi := ?o17d) (v := ?v17d) ?hi17d (by kernel_rfl) ?hQ17d ?hw17d HZ0.out (fun _ => rfl) ?hy17d ?rest17d
    case hi17d => (simp only [List.getElem?_toArray, List.getElem?_cons_succ, List.getElem?_cons_zero]; exact rfl)
    case hQ17d => exact fun _ _ _ h => h
    case hw17d => rfl
    case hy17d => (intro w9 hw9; obtain ⟨⟨z0, z1⟩, z2, z3⟩ := hw9; go_simp; try with_reducible rfl)
    simp only [Act.put, List.setIfInBounds_toArray, List.set_cons_zero, List.set_cons_succ]
    refine wpAnyS_take (i := 18) (oi := ?o18d) (v := ?v18d) ?hi18d (by kernel_rfl) ?hQ18d ?hw18d HZ0.out (fun _ => rfl) ?hy18d ?rest18d
    case hi18d => (simp only [List.getElem?_toArray, List.getElem?_cons_succ, List.getElem?_cons_zero]; exact rfl)
    case hQ18d => exact fun _ _ _ h => h
    case hw18d => rfl
    case hy18d => (intro w9 hw9; obtain ⟨⟨z0, z1⟩, z2, z3⟩ := hw9; go_simp; try with_reducible rfl)
    simp only [Act.put, List.setIfInBounds_toArray, List.set_cons_zero, List.set_cons_succ]
    refine wpAnyS_take (i := 19) (oi := ?o19d) (v := ?v19d) ?hi19d (by kernel_rfl) ?hQ19d ?hw19d HZ0.out (fun _ => rfl) ?hy19d ?rest19d
    case hi19d => (simp only [List.getElem?_toArray, List.getElem?_cons_succ, List.getElem?_cons_zero]; exact rfl)
    case hQ19d => exact fun _ _ _ h => h
    case hw19d => rfl
    case hy19d => (intro w9 hw9; obtain ⟨⟨z0, z1⟩, z2, z3⟩ := hw9; go_simp; try with_reducible rfl)
    simp only [Act.put, List.setIfInBounds_toArray, List.set_cons_zero, List.set_cons_succ]
    refine wpAnyS_take (i := 20) (oi := ?o20d) (v := ?v20d) ?hi20d (by kernel_rfl) ?hQ20d ?hw20d HZ0.out (fun _ => rfl) ?hy20d ?rest20d
    case hi20d => (simp only [List.getElem?_toArray, List.getElem?_cons_succ, List.getElem?_cons_zero]; exact rfl)
    case hQ20d => exact fun _ _ _ h => h
    case hw20d => rfl
    case hy20d => (intro w9 hw9; obtain ⟨⟨z0, z1⟩, z2, z3⟩ := hw9; go_simp; try with_reducible rfl)
    simp only [Act.put, List.setIfInBounds_toArray, List.set_cons_zero, List.set_cons_succ]
    refine wpAnyS_take (i := 21) (oi := ?o21d) (v := ?v21d) ?hi21d (by kernel_rfl) ?hQ21d ?hw21d HZ0.out (fun _ => rfl) ?hy21d ?rest21d
    case hi21d => (simp only [List.getElem?_toArray, List.getElem?_cons_succ, List.getElem?_cons_zero]; exact rfl)
    case hQ21d => exact fun _ _ _ h => h
    case hw21d => rfl
    case hy21d => (intro w9 hw9; obtain ⟨⟨z0, z1⟩, z2, z3⟩ := hw9; go_simp; try with_reducible rfl)
    simp only [Act.put, List.setIfInBounds_toArray, List.set_cons_zero, List.set_cons_succ]
    refine wpAnyS_take (i := 22) (oi := ?o22d) (v := ?v22d) ?hi22d (by kernel_rfl) ?hQ22d ?hw22d HZ0.out (fun _ => rfl) ?hy22d ?rest22d
    case hi22d => (simp only [List.getElem?_toArray, List.getElem?_cons_succ, List.getElem?_cons_zero]; exact rfl)
    case hQ22d => exact fun _ _ _ h => h
    case hw22d => rfl
    case hy22d => (intro w9 hw9; obtain ⟨⟨z0, z1⟩, z2, z3⟩ := hw9; go_simp; try with_reducible rfl)
    simp only [Act.put, List.setIfInBounds_toArray, List.set_cons_zero, List.set_cons_succ]
    refine wpAnyS_take (i := 23) (oi := ?o23d) (v := ?v23d) ?hi23d (by kernel_rfl) ?hQ23d ?hw23d HZ0.out (fun _ => rfl) ?hy23d ?rest23d
    case hi23d => (simp only [List.getElem?_toArray, List.getElem?_cons_succ, List.getElem?_cons_zero]; exact rfl)
    case hQ23d => exact fun _ _ _ h => h
    case hw23d => rfl
    case hy23d => (intro w9 hw9; obtain ⟨⟨z0, z1⟩, z2, z3⟩ := hw9; go_simp; try with_reducible rfl)
    simp only [Act.put, List.setIfInBounds_toArray, List.set_cons_zero, List.set_cons_succ]
    refine wpAnyS_take (i := 24) (oi := ?o24d) (v := ?v24d) ?hi24d (by kernel_rfl) ?hQ24d ?hw24d HZ0.out (fun _ => rfl) ?hy24d ?rest24d
    case hi24d => (simp only [List.getElem?_toArray, List.getElem?_cons_succ, List.getElem?_cons_zero]; exact rfl)
    case hQ24d => exact fun _ _ _ h => h
    case hw24d => rfl
    case hy24d => (intro w9 hw9; obtain ⟨⟨z0, z1⟩, z2, z3⟩ := hw9; go_simp; try with_reducible rfl)
    simp only [Act.put, List.setIfInBounds_toArray, List.set_cons_zero, List.set_cons_succ]
    refine wpAnyK_one (i := 25) (by kernel_rfl) (by kernel_rfl) ?st25d
    refine wpOp_skip (o := ?os25d) (w' := ?ws25d) ?his25d ?hws25d ?hrs25d ?rs25d
    case his25d => (simp only [List.getElem?_toArray, List.getElem?_cons_succ, List.getElem?_cons_zero]; exact rfl)
    case hws25d => rfl
    case hrs25d => (go_simp; try with_reducible rfl)
    refine ⟨(by first | exact HZ1.out _ _ _ HZ0.out | exact HZ1.out _ _ _ (HZ1.out _ _ _ HZ0.out)), ?_⟩
    try simp only [Act.put, List.setIfInBounds_toArray, List.set_cons_zero, List.set_cons_succ]
    refine wpAnyS_take (i := 26) (oi := ?o26d) (v := ?v26d) ?hi26d (by kernel_rfl) ?hQ26d ?hw26d (by first | exact HZ1.out _ _ _ HZ0.out | exact HZ1.out _ _ _ (HZ1.out _ _ _ HZ0.out)) (fun e => absurd e (by decide +kernel)) ?hy26d ?rest26d
    case hi26d => (simp only [List.getElem?_toArray, List.getElem?_cons_succ, List.getElem?_cons_zero]; exact rfl)
    case hQ26d => exact fun _ _ _ h => h
    case hw26d => rfl
    case hy26d => (intro w9 hw9; obtain ⟨⟨z0, z1⟩, z2, z3⟩ := hw9; go_simp; try with_reducible rfl)
    simp only [Act.put, List.setIfInBounds_toArray, List.set_cons_zero, List.set_cons_succ]
    refine wpAnyK_one (i := 27) (by kernel_rfl) (by kernel_rfl) ?st27d
    refine wpOp_skip (o := ?os27d) (w' := ?ws27d) ?his27d ?hws27d ?hrs27d ?rs27d
    case his27d => (simp only [List.getElem?_toArray, List.getElem?_cons_succ, List.getElem?_cons_zero]; exact rfl)
    case hws27d => rfl
    case hrs27d => (go_simp; try with_reducible rfl)
    refine ⟨(by first | exact HZ1.out _ _ _ HZ0.out | exact HZ1.out _ _ _ (HZ1.out _ _ _ HZ0.out)), ?_⟩
    try simp only [Act.put, List.setIfInBounds_toArray, List.set_cons_zero, List.set_cons_succ]
    refine wpAnyK_done (by kernel_rfl) ?_ _
    refine NoPanic.normal ?_
    go_wp2
    go_end0
    exact ⟨rfl, HF1.out _ rfl⟩
end Go.Proofs.Ytienomdennbkpaa.He
