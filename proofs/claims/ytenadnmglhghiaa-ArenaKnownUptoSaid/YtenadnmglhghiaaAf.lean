/- An arena: Swap, Shrink. Conditions: the memory. -/
import Derived.Test.YtenadnmglhghiaaAe
import Derived.Lib.SliceRun
import Derived.Test.YtenadnmglhghiaaKo
namespace Go.Proofs.Ytenadnmglhghiaa.Ar
open Go.RowKit Go.Proofs.Ytenadnmglhghiaa.Mem Go.Proofs.Ytenadnmglhghiaa.Sl Go.Shelf
open Go.Proofs.Ytenadnmglhghiaa.FnL (enc_at below_then)
open Go.Proofs.Ytenadnmglhghiaa.Ko (wp_region_k wpAnyK wpAnyK_take wpAnyS_take wpAnyK_one wpAnyK_done wpOp_skip)
set_option linter.unusedVariables false
set_option linter.unusedSimpArgs false
attribute [local go_sem] Oper.semAt_some

theorem flat_put2 {its : List Itm} (h : ∀ x, x ∈ its → IOk x) {i : Nat} (hi : i < its.length) (y : Itm) (hw : its[i].wd = y.wd) {j k : Nat} (hj : j < its[i].wd) (hk : k < its[i].wd) (v u : Int) (he : enc y = ((enc its[i]).set j v).set k u) :
    flat (its.set i y) = ((flat its).set (sumw (its.take i) + j) v).set (sumw (its.take i) + k) u := by
  have hl := flat_len (its := its.take i) fun x hx => h x (List.mem_of_mem_take hx)
  have hE := enc_len (h its[i] (List.getElem_mem hi))
  rw [flat_set h hi y hw, he, flat_split hi, List.set_append_right (sumw (its.take i) + j) v (by omega), hl, Nat.add_sub_cancel_left, List.set_append_left j v (by omega), List.set_append_right (sumw (its.take i) + k) u (by omega), hl, Nat.add_sub_cancel_left, List.set_append_left k u (by rw [List.length_set]; omega)]
def swapL (l : List Int) (i k : Nat) : List Int := (l.set i (l.getD k 0)).set k (l.getD i 0)
theorem swapL_len (l : List Int) (i k : Nat) : (swapL l i k).length = l.length := by simp [swapL]
theorem enc_swap (x : Itm) {i k : Nat} (hi : i < x.l.length) (hk : k < x.l.length) : enc (x.lits (swapL x.l i k)) = ((enc x).set (4 + i) (u32 (x.l.getD k 0))).set (4 + k) (u32 (x.l.getD i 0)) := by
  have hh : hdI (x.lits (swapL x.l i k)) = hdI x := by
    show 4 * ((swapL x.l i k).length : Int) + _ + _ = _
    rw [swapL_len]; rfl
  show hdI (x.lits (swapL x.l i k)) :: x.id % 4294967296 :: x.id / 4294967296 :: (x.lbd * 65536 + x.used) :: ((swapL x.l i k).map u32 ++ List.replicate (x.wd - 4 - (swapL x.l i k).length) 0) = _
  rw [hh, swapL_len]
  unfold enc swapL
  rw [Nat.add_comm 4 i, Nat.add_comm 4 k]
  simp only [List.set_cons_succ, List.map_set]
  rw [List.set_append_left _ _ (by rw [List.length_map]; exact hi), List.set_append_left _ _ (by rw [List.length_set, List.length_map]; exact hk)]
section
variable {w : World} {base : Nat} {q : AAd} {lim : Int} {its : List Itm}
def swapM (its : List Itm) (r i k : Int) : Int × List Itm := match fnd its r with
  | none => (91, its)
  | some p => if i < 0 ∨ k < 0 ∨ ((get its r).l.length : Int) ≤ i ∨ ((get its r).l.length : Int) ≤ k then (2, its) else (0, its.set p ((get its r).lits (swapL (get its r).l i.toNat k.toNat)))
set_option maxRecDepth 100000 in
theorem swap_any (h : AR w base q lim its) (r : Int) (hr : inI r) (i k : Int) (hi0 : inI i) (hk0 : inI k) : Calls Try.prog 25 #[.pointer (some ⟨q.g, 0, none⟩), .int .i64 r, .int .i64 i, .int .i64 k] w fun e w' =>
    e = .returned (.int .i64 (swapM its r i k).1) ∧ AR w' base q lim (swapM its r i k).2 ∧ Mod (mq q) w w' := by
  have HS := Lib.hid (is_any h r hr)
  have H := Lib.hid h
  rcases find_cases its r with ⟨h1, hf, h2⟩ | ⟨p, hp, h1, hf, h2, h3, h4⟩
  · rw [h1] at HS
    have HE := Lib.hid (show swapM its r i k = (91, its) by unfold swapM; rw [hf])
    clear h hf h1 h2
    go_enter Try.func25, Try.ntmps25
    go_wp2_with fail
    refine HS.out.mono ?_
    rintro e w1 ⟨rfl, rfl⟩
    go_wp2
    go_ret
    exact ⟨by rw [HE.out]; rfl, by rw [HE.out]; exact H.out, Mod.refl _ _⟩
  rw [h1] at HS
  have HZ := Lib.hid (size_any h hp h4)
  rw [← h3] at HZ
  obtain ⟨a, n, hF, hn, eA, hba⟩ := h.fd hp h4
  have hLn : its[p].l.length ≤ 268435456 := by have := hF.ok.wd; have := hF.le; have := hF.nl; omega
  by_cases hb : i < 0 ∨ k < 0 ∨ (its[p].l.length : Int) ≤ i ∨ (its[p].l.length : Int) ≤ k
  · have HE := Lib.hid (show swapM its r i k = (2, its) by unfold swapM; rw [hf, h2]; exact if_pos hb)
    clear h hf h1 h2 h3 h4 hF hn eA hba
    generalize its[p].l.length = L at *
    by_cases p1 : i < 0
    · clear hb
      go_enter Try.func25, Try.ntmps25
      go_wp2_with fail
      refine HS.out.mono ?_
      rintro e w1 ⟨rfl, rfl⟩
      go_wp2_with fail
      refine HZ.out.mono ?_
      rintro e w1 ⟨rfl, rfl⟩
      go_wp2
      go_ret
      exact ⟨by rw [HE.out]; rfl, by rw [HE.out]; exact H.out, Mod.refl _ _⟩
    by_cases p2 : k < 0
    · clear hb
      go_enter Try.func25, Try.ntmps25
      go_wp2_with fail
      refine HS.out.mono ?_
      rintro e w1 ⟨rfl, rfl⟩
      go_wp2_with fail
      refine HZ.out.mono ?_
      rintro e w1 ⟨rfl, rfl⟩
      go_wp2
      go_ret
      exact ⟨by rw [HE.out]; rfl, by rw [HE.out]; exact H.out, Mod.refl _ _⟩
    by_cases p3 : (L : Int) ≤ i
    · clear hb
      go_enter Try.func25, Try.ntmps25
      go_wp2_with fail
      refine HS.out.mono ?_
      rintro e w1 ⟨rfl, rfl⟩
      go_wp2_with fail
      refine HZ.out.mono ?_
      rintro e w1 ⟨rfl, rfl⟩
      go_wp2
      go_ret
      exact ⟨by rw [HE.out]; rfl, by rw [HE.out]; exact H.out, Mod.refl _ _⟩
    have p4 : (L : Int) ≤ k := by omega
    clear hb
    go_enter Try.func25, Try.ntmps25
    go_wp2_with fail
    refine HS.out.mono ?_
    rintro e w1 ⟨rfl, rfl⟩
    go_wp2_with fail
    refine HZ.out.mono ?_
    rintro e w1 ⟨rfl, rfl⟩
    go_wp2
    go_ret
    exact ⟨by rw [HE.out]; rfl, by rw [HE.out]; exact H.out, Mod.refl _ _⟩
  have HE := Lib.hid (show swapM its r i k = (0, its.set p (its[p].lits (swapL its[p].l i.toNat k.toNat))) by unfold swapM; rw [hf, h2]; exact if_neg hb)
  obtain ⟨c1, w0, w1, w2, w3, wl, le, nl, fz, ok, lv⟩ := hF
  have hw := ok.wd
  obtain ⟨n1, n2, n3⟩ := h.apart eA (by omega)
  obtain ⟨i, rfl⟩ : ∃ i' : Nat, i = i' := ⟨i.toNat, by omega⟩
  obtain ⟨k, rfl⟩ : ∃ k' : Nat, k = k' := ⟨k.toNat, by omega⟩
  rw [Int.toNat_natCast, Int.toNat_natCast] at HE
  have hil : i < its[p].l.length := by omega
  have hkl : k < its[p].l.length := by omega
  have di := wl i hil
  have dk := wl k hkl
  have gi : its[p].l.getD i 0 = its[p].l[i] := by rw [List.getD_eq_getElem?_getD, List.getElem?_eq_getElem hil]; rfl
  have gk : its[p].l.getD k 0 = its[p].l[k] := by rw [List.getD_eq_getElem?_getD, List.getElem?_eq_getElem hkl]; rfl
  rw [← gi] at di
  rw [← gk] at dk
  have hES := enc_swap its[p] hil hkl
  have hoky : IOk (its[p].lits (swapL its[p].l i k)) := ⟨by show 4 + (swapL its[p].l i k).length ≤ its[p].wd; rw [swapL_len]; exact hw, ok.id, fun y hy => by
    have hy : y ∈ swapL its[p].l i k := hy
    rcases List.mem_or_eq_of_mem_set hy with hy | rfl
    · rcases List.mem_or_eq_of_mem_set hy with hy | rfl
      · exact ok.l y hy
      · rw [gk]; exact ok.l _ (List.getElem_mem hkl)
    · rw [gi]; exact ok.l _ (List.getElem_mem hil), ok.lbd, ok.used⟩
  have hcap : n ≤ q.c := by
    have := h.row.row (by omega)
    obtain ⟨a2, e2, _, hrow⟩ := this
    have h5 := hrow.le
    unfold UZ at h5
    rw [List.length_map, flat_len h.ok] at h5
    omega
  have HFN := Lib.hid (fun W (hW : W = ((w.setCell ⟨a, sumw (its.take p) + 4 + i, none⟩ (.int .u32 (u32 (its[p].l.getD k 0)))).setCell ⟨a, sumw (its.take p) + 4 + k, none⟩ (.int .u32 (u32 (its[p].l.getD i 0)))).drew) => (show AR W base q lim (its.set p (its[p].lits (swapL its[p].l i k))) ∧ Mod (mq q) w W from by
    subst hW
    have hm : Mod (fun k => k = a) w ((w.setCell ⟨a, sumw (its.take p) + 4 + i, none⟩ (.int .u32 (u32 (its[p].l.getD k 0)))).setCell ⟨a, sumw (its.take p) + 4 + k, none⟩ (.int .u32 (u32 (its[p].l.getD i 0)))).drew :=
      (Mod.setCell (S := fun k => k = a) (Mod.setCell (S := fun k => k = a) (Mod.refl _ _) (p := ⟨a, sumw (its.take p) + 4 + i, none⟩) (.inl rfl) _) (p := ⟨a, sumw (its.take p) + 4 + k, none⟩) (.inl rfl) _).drew
    refine ⟨h.again hp (its[p].lits (swapL its[p].l i k)) rfl hoky ?_ ?_ ?_, hm.mono fun k _ e => .inr (.inr (by rw [e]; exact eA))⟩
    · have hr := h.row
      rw [eA] at hr ⊢
      rw [sumw_set hp (its[p].lits (swapL its[p].l i k)) rfl, flat_put2 h.ok hp (its[p].lits (swapL its[p].l i k)) rfl (j := 4 + i) (k := 4 + k) (by omega) (by omega) _ _ hES]
      have := App.Own.set_ (App.Own.set_ hr (sumw (its.take p) + (4 + i)) (by omega) (.int .u32 (u32 (its[p].l.getD k 0)))) (sumw (its.take p) + (4 + k)) (by omega) (.int .u32 (u32 (its[p].l.getD i 0)))
      unfold UZ
      rw [List.map_set, List.map_set]
      rw [Nat.add_assoc, Nat.add_assoc]
      exact this.drewN 1
    · rw [show waste (its.set p (its[p].lits (swapL its[p].l i k))) = waste its from by
        have h5 := waste_set hp (its[p].lits (swapL its[p].l i k))
        have h6 : wst (its[p].lits (swapL its[p].l i k)) = wst its[p] := by
          show (if its[p].dead then its[p].wd else its[p].wd - 4 - (swapL its[p].l i k).length) = _
          rw [swapL_len]; rfl
        omega]
      exact h.blk.mod hm (fun e => n1 e.symm)
    · rw [refs_set hp (its[p].lits (swapL its[p].l i k)) rfl rfl]
      exact h.mp.mod hm (fun e => n2 e.symm)))
  have hfi := fz (sumw (its.take p) + 4 + i)
  have hfk := fz (sumw (its.take p) + 4 + k)
  subst h3
  generalize its.set p (its[p].lits (swapL its[p].l i k)) = its' at *
  have hr4 : sumw (its.take p) + 4 + its[p].l.length ≤ n := by omega
  generalize u32 (its[p].l.getD i 0) = ui at *
  generalize u32 (its[p].l.getD k 0) = uk at *
  clear h h1 h2 h4 ok wl w0 w1 w2 w3 hf hn eA hba lv fz hw le hb gi gk hES hoky
  generalize its[p].l.length = L at *
  generalize sumw (its.take p) = r at *
  have e1 : IntKind.i64.wrap ((r : Int) + 4) = ((r + 4 : Nat) : Int) := by rw [IntWalk.i64_in _ (by omega)]; omega
  have k1 : ((r + 4 : Nat) : Int) < (q.c : Int) := by omega
  have k2 : r + 4 < q.c := by omega
  have k3 : r + 4 ≤ n := by omega
  have k4 : i < n - (r + 4) := by omega
  have k5 : k < n - (r + 4) := by omega
  have k6 : (i : Int) < ((n - (r + 4) : Nat) : Int) := by omega
  have k7 : (k : Int) < ((n - (r + 4) : Nat) : Int) := by omega
  go_enter Try.func25, Try.ntmps25
  go_wp2_with fail
  refine HS.out.mono ?_
  rintro e w1 ⟨rfl, rfl⟩
  go_wp2_with fail
  refine HZ.out.mono ?_
  rintro e w1 ⟨rfl, rfl⟩
  go_wp2_with fail
  by_cases hik : i = k
  · subst hik
    have huu : ui = uk := by rw [di] at dk; injection dk with dk; injection dk
    subst huu
    have di2 : ∀ v, (w.setCell ⟨a, r + 4 + i, none⟩ v).cell? ⟨a, r + 4 + i, none⟩ = some v := fun v => World.cell?_setCell_same _ _ _ (by rw [di])
    refine wp_region_noPanic ?_
    refine wp_region_k (fun _ => True) 13 (by kernel_rfl) ?_
    change wpAnyK _ _ _ _ _ _ _ 16 _ _ _
    refine wpAnyS_take (i := 0) (oi := ?o0a) (v := ?v0a) ?hi0a (by kernel_rfl) ?hQ0a ?hw0a trivial (fun _ => rfl) ?hy0a ?rest0a
    case hi0a => (simp only [List.getElem?_toArray, List.getElem?_cons_succ, List.getElem?_cons_zero]; exact rfl)
    case hQ0a => exact fun _ _ _ h => h
    case hw0a => rfl
    case hy0a => (intro w9 hw9; go_simp; try with_reducible rfl)
    simp only [Act.put, List.setIfInBounds_toArray, List.set_cons_zero, List.set_cons_succ]
    refine wpAnyS_take (i := 1) (oi := ?o1a) (v := ?v1a) ?hi1a (by kernel_rfl) ?hQ1a ?hw1a trivial (fun _ => rfl) ?hy1a ?rest1a
    case hi1a => (simp only [List.getElem?_toArray, List.getElem?_cons_succ, List.getElem?_cons_zero]; exact rfl)
    case hQ1a => exact fun _ _ _ h => h
    case hw1a => rfl
    case hy1a => (intro w9 hw9; go_simp; try with_reducible rfl)
    simp only [Act.put, List.setIfInBounds_toArray, List.set_cons_zero, List.set_cons_succ]
    refine wpAnyS_take (i := 2) (oi := ?o2a) (v := ?v2a) ?hi2a (by kernel_rfl) ?hQ2a ?hw2a trivial (fun _ => rfl) ?hy2a ?rest2a
    case hi2a => (simp only [List.getElem?_toArray, List.getElem?_cons_succ, List.getElem?_cons_zero]; exact rfl)
    case hQ2a => exact fun _ _ _ h => h
    case hw2a => rfl
    case hy2a => (intro w9 hw9; go_simp; try with_reducible rfl)
    simp only [Act.put, List.setIfInBounds_toArray, List.set_cons_zero, List.set_cons_succ]
    refine wpAnyS_take (i := 3) (oi := ?o3a) (v := ?v3a) ?hi3a (by kernel_rfl) ?hQ3a ?hw3a trivial (fun _ => rfl) ?hy3a ?rest3a
    case hi3a => (simp only [List.getElem?_toArray, List.getElem?_cons_succ, List.getElem?_cons_zero]; exact rfl)
    case hQ3a => exact fun _ _ _ h => h
    case hw3a => rfl
    case hy3a => (intro w9 hw9; go_simp; try with_reducible rfl)
    simp only [Act.put, List.setIfInBounds_toArray, List.set_cons_zero, List.set_cons_succ]
    refine wpAnyS_take (i := 4) (oi := ?o4a) (v := ?v4a) ?hi4a (by kernel_rfl) ?hQ4a ?hw4a trivial (fun _ => rfl) ?hy4a ?rest4a
    case hi4a => (simp only [List.getElem?_toArray, List.getElem?_cons_succ, List.getElem?_cons_zero]; exact rfl)
    case hQ4a => exact fun _ _ _ h => h
    case hw4a => rfl
    case hy4a => (intro w9 hw9; go_simp; try with_reducible rfl)
    simp only [Act.put, List.setIfInBounds_toArray, List.set_cons_zero, List.set_cons_succ]
    refine wpAnyS_take (i := 5) (oi := ?o5a) (v := ?v5a) ?hi5a (by kernel_rfl) ?hQ5a ?hw5a trivial (fun _ => rfl) ?hy5a ?rest5a
    case hi5a => (simp only [List.getElem?_toArray, List.getElem?_cons_succ, List.getElem?_cons_zero]; exact rfl)
    case hQ5a => exact fun _ _ _ h => h
    case hw5a => rfl
    case hy5a => (intro w9 hw9; go_simp; try with_reducible rfl)
    simp only [Act.put, List.setIfInBounds_toArray, List.set_cons_zero, List.set_cons_succ]
    refine wpAnyS_take (i := 6) (oi := ?o6a) (v := ?v6a) ?hi6a (by kernel_rfl) ?hQ6a ?hw6a trivial (fun _ => rfl) ?hy6a ?rest6a
    case hi6a => (simp only [List.getElem?_toArray, List.getElem?_cons_succ, List.getElem?_cons_zero]; exact rfl)
    case hQ6a => exact fun _ _ _ h => h
    case hw6a => rfl
    case hy6a => (intro w9 hw9; go_simp; try with_reducible rfl)
    simp only [Act.put, List.setIfInBounds_toArray, List.set_cons_zero, List.set_cons_succ]
    refine wpAnyK_take (i := 7) (oi := ?o7a) (v := ?v7a) ?hi7a (by kernel_rfl) ?hQ7a ?hw7a trivial ?hy7a ?rest7a
    case hi7a => (simp only [List.getElem?_toArray, List.getElem?_cons_succ, List.getElem?_cons_zero]; exact rfl)
    case hQ7a => exact fun _ _ _ h => h
    case hw7a => rfl
    case hy7a => (go_simp; try with_reducible rfl)
    simp only [Act.put, List.setIfInBounds_toArray, List.set_cons_zero, List.set_cons_succ]
    refine wpAnyS_take (i := 8) (oi := ?o8a) (v := ?v8a) ?hi8a (by kernel_rfl) ?hQ8a ?hw8a trivial (fun _ => rfl) ?hy8a ?rest8a
    case hi8a => (simp only [List.getElem?_toArray, List.getElem?_cons_succ, List.getElem?_cons_zero]; exact rfl)
    case hQ8a => exact fun _ _ _ h => h
    case hw8a => rfl
    case hy8a => (intro w9 hw9; go_simp; try with_reducible rfl)
    simp only [Act.put, List.setIfInBounds_toArray, List.set_cons_zero, List.set_cons_succ]
    refine wpAnyS_take (i := 9) (oi := ?o9a) (v := ?v9a) ?hi9a (by kernel_rfl) ?hQ9a ?hw9a trivial (fun _ => rfl) ?hy9a ?rest9a
    case hi9a => (simp only [List.getElem?_toArray, List.getElem?_cons_succ, List.getElem?_cons_zero]; exact rfl)
    case hQ9a => exact fun _ _ _ h => h
    case hw9a => rfl
    case hy9a => (intro w9 hw9; go_simp; try with_reducible rfl)
    simp only [Act.put, List.setIfInBounds_toArray, List.set_cons_zero, List.set_cons_succ]
    refine wpAnyS_take (i := 10) (oi := ?o10a) (v := ?v10a) ?hi10a (by kernel_rfl) ?hQ10a ?hw10a trivial (fun _ => rfl) ?hy10a ?rest10a
    case hi10a => (simp only [List.getElem?_toArray, List.getElem?_cons_succ, List.getElem?_cons_zero]; exact rfl)
    case hQ10a => exact fun _ _ _ h => h
    case hw10a => rfl
    case hy10a => (intro w9 hw9; go_simp; try with_reducible rfl)
    simp only [Act.put, List.setIfInBounds_toArray, List.set_cons_zero, List.set_cons_succ]
    refine wpAnyK_take (i := 11) (oi := ?o11a) (v := ?v11a) ?hi11a (by kernel_rfl) ?hQ11a ?hw11a trivial ?hy11a ?rest11a
    case hi11a => (simp only [List.getElem?_toArray, List.getElem?_cons_succ, List.getElem?_cons_zero]; exact rfl)
    case hQ11a => exact fun _ _ _ h => h
    case hw11a => rfl
    case hy11a => (go_simp; try with_reducible rfl)
    simp only [Act.put, List.setIfInBounds_toArray, List.set_cons_zero, List.set_cons_succ]
    refine wpAnyS_take (i := 12) (oi := ?o12a) (v := ?v12a) ?hi12a (by kernel_rfl) ?hQ12a ?hw12a trivial (fun _ => rfl) ?hy12a ?rest12a
    case hi12a => (simp only [List.getElem?_toArray, List.getElem?_cons_succ, List.getElem?_cons_zero]; exact rfl)
    case hQ12a => exact fun _ _ _ h => h
    case hw12a => rfl
    case hy12a => (intro w9 hw9; go_simp; try with_reducible rfl)
    simp only [Act.put, List.setIfInBounds_toArray, List.set_cons_zero, List.set_cons_succ]
    refine wpAnyK_one (i := 13) (by kernel_rfl) (by kernel_rfl) ?st13a
    refine wpOp_skip (o := ?os13a) (w' := ?ws13a) ?his13a ?hws13a ?hrs13a ?rs13a
    case his13a => (simp only [List.getElem?_toArray, List.getElem?_cons_succ, List.getElem?_cons_zero]; exact rfl)
    case hws13a => rfl
    case hrs13a => (go_simp; try with_reducible rfl)
    refine ⟨trivial, ?_⟩
    try simp only [Act.put, List.setIfInBounds_toArray, List.set_cons_zero, List.set_cons_succ]
    refine wpAnyS_take (i := 14) (oi := ?o14a) (v := ?v14a) ?hi14a (by kernel_rfl) ?hQ14a ?hw14a trivial (fun e => absurd e (by decide +kernel)) ?hy14a ?rest14a
    case hi14a => (simp only [List.getElem?_toArray, List.getElem?_cons_succ, List.getElem?_cons_zero]; exact rfl)
    case hQ14a => exact fun _ _ _ h => h
    case hw14a => rfl
    case hy14a => (intro w9 hw9; go_simp; try with_reducible rfl)
    simp only [Act.put, List.setIfInBounds_toArray, List.set_cons_zero, List.set_cons_succ]
    refine wpAnyK_one (i := 15) (by kernel_rfl) (by kernel_rfl) ?st15a
    refine wpOp_skip (o := ?os15a) (w' := ?ws15a) ?his15a ?hws15a ?hrs15a ?rs15a
    case his15a => (simp only [List.getElem?_toArray, List.getElem?_cons_succ, List.getElem?_cons_zero]; exact rfl)
    case hws15a => rfl
    case hrs15a => (go_simp; try with_reducible rfl)
    refine ⟨trivial, ?_⟩
    try simp only [Act.put, List.setIfInBounds_toArray, List.set_cons_zero, List.set_cons_succ]
    refine wpAnyK_done (by kernel_rfl) ?_ _
    refine NoPanic.normal ?_
    go_wp2
    go_ret
    refine ⟨by rw [HE.out]; rfl, ?_⟩
    rw [HE.out]
    exact HFN.out _ rfl
  · have hik2 : ¬ k = i := fun e => hik e.symm
    refine wp_region_noPanic ?_
    refine wp_region_k (fun _ => True) 13 (by kernel_rfl) ?_
    change wpAnyK _ _ _ _ _ _ _ 16 _ _ _
    refine wpAnyS_take (i := 0) (oi := ?o0b) (v := ?v0b) ?hi0b (by kernel_rfl) ?hQ0b ?hw0b trivial (fun _ => rfl) ?hy0b ?rest0b
    case hi0b => (simp only [List.getElem?_toArray, List.getElem?_cons_succ, List.getElem?_cons_zero]; exact rfl)
    case hQ0b => exact fun _ _ _ h => h
    case hw0b => rfl
    case hy0b => (intro w9 hw9; go_simp; try with_reducible rfl)
    simp only [Act.put, List.setIfInBounds_toArray, List.set_cons_zero, List.set_cons_succ]
    refine wpAnyS_take (i := 1) (oi := ?o1b) (v := ?v1b) ?hi1b (by kernel_rfl) ?hQ1b ?hw1b trivial (fun _ => rfl) ?hy1b ?rest1b
    case hi1b => (simp only [List.getElem?_toArray, List.getElem?_cons_succ, List.getElem?_cons_zero]; exact rfl)
    case hQ1b => exact fun _ _ _ h => h
    case hw1b => rfl
    case hy1b => (intro w9 hw9; go_simp; try with_reducible rfl)
    simp only [Act.put, List.setIfInBounds_toArray, List.set_cons_zero, List.set_cons_succ]
    refine wpAnyS_take (i := 2) (oi := ?o2b) (v := ?v2b) ?hi2b (by kernel_rfl) ?hQ2b ?hw2b trivial (fun _ => rfl) ?hy2b ?rest2b
    case hi2b => (simp only [List.getElem?_toArray, List.getElem?_cons_succ, List.getElem?_cons_zero]; exact rfl)
    case hQ2b => exact fun _ _ _ h => h
    case hw2b => rfl
    case hy2b => (intro w9 hw9; go_simp; try with_reducible rfl)
    simp only [Act.put, List.setIfInBounds_toArray, List.set_cons_zero, List.set_cons_succ]
    refine wpAnyS_take (i := 3) (oi := ?o3b) (v := ?v3b) ?hi3b (by kernel_rfl) ?hQ3b ?hw3b trivial (fun _ => rfl) ?hy3b ?rest3b
    case hi3b => (simp only [List.getElem?_toArray, List.getElem?_cons_succ, List.getElem?_cons_zero]; exact rfl)
    case hQ3b => exact fun _ _ _ h => h
    case hw3b => rfl
    case hy3b => (intro w9 hw9; go_simp; try with_reducible rfl)
    simp only [Act.put, List.setIfInBounds_toArray, List.set_cons_zero, List.set_cons_succ]
    refine wpAnyS_take (i := 4) (oi := ?o4b) (v := ?v4b) ?hi4b (by kernel_rfl) ?hQ4b ?hw4b trivial (fun _ => rfl) ?hy4b ?rest4b
    case hi4b => (simp only [List.getElem?_toArray, List.getElem?_cons_succ, List.getElem?_cons_zero]; exact rfl)
    case hQ4b => exact fun _ _ _ h => h
    case hw4b => rfl
    case hy4b => (intro w9 hw9; go_simp; try with_reducible rfl)
    simp only [Act.put, List.setIfInBounds_toArray, List.set_cons_zero, List.set_cons_succ]
    refine wpAnyS_take (i := 5) (oi := ?o5b) (v := ?v5b) ?hi5b (by kernel_rfl) ?hQ5b ?hw5b trivial (fun _ => rfl) ?hy5b ?rest5b
    case hi5b => (simp only [List.getElem?_toArray, List.getElem?_cons_succ, List.getElem?_cons_zero]; exact rfl)
    case hQ5b => exact fun _ _ _ h => h
    case hw5b => rfl
    case hy5b => (intro w9 hw9; go_simp; try with_reducible rfl)
    simp only [Act.put, List.setIfInBounds_toArray, List.set_cons_zero, List.set_cons_succ]
    refine wpAnyS_take (i := 6) (oi := ?o6b) (v := ?v6b) ?hi6b (by kernel_rfl) ?hQ6b ?hw6b trivial (fun _ => rfl) ?hy6b ?rest6b
    case hi6b => (simp only [List.getElem?_toArray, List.getElem?_cons_succ, List.getElem?_cons_zero]; exact rfl)
    case hQ6b => exact fun _ _ _ h => h
    case hw6b => rfl
    case hy6b => (intro w9 hw9; go_simp; try with_reducible rfl)
    simp only [Act.put, List.setIfInBounds_toArray, List.set_cons_zero, List.set_cons_succ]
    refine wpAnyK_take (i := 7) (oi := ?o7b) (v := ?v7b) ?hi7b (by kernel_rfl) ?hQ7b ?hw7b trivial ?hy7b ?rest7b
    case hi7b => (simp only [List.getElem?_toArray, List.getElem?_cons_succ, List.getElem?_cons_zero]; exact rfl)
    case hQ7b => exact fun _ _ _ h => h
    case hw7b => rfl
    case hy7b => (go_simp; try with_reducible rfl)
    simp only [Act.put, List.setIfInBounds_toArray, List.set_cons_zero, List.set_cons_succ]
    refine wpAnyS_take (i := 8) (oi := ?o8b) (v := ?v8b) ?hi8b (by kernel_rfl) ?hQ8b ?hw8b trivial (fun _ => rfl) ?hy8b ?rest8b
    case hi8b => (simp only [List.getElem?_toArray, List.getElem?_cons_succ, List.getElem?_cons_zero]; exact rfl)
    case hQ8b => exact fun _ _ _ h => h
    case hw8b => rfl
    case hy8b => (intro w9 hw9; go_simp; try with_reducible rfl)
    simp only [Act.put, List.setIfInBounds_toArray, List.set_cons_zero, List.set_cons_succ]
    refine wpAnyS_take (i := 9) (oi := ?o9b) (v := ?v9b) ?hi9b (by kernel_rfl) ?hQ9b ?hw9b trivial (fun _ => rfl) ?hy9b ?rest9b
    case hi9b => (simp only [List.getElem?_toArray, List.getElem?_cons_succ, List.getElem?_cons_zero]; exact rfl)
    case hQ9b => exact fun _ _ _ h => h
    case hw9b => rfl
    case hy9b => (intro w9 hw9; go_simp; try with_reducible rfl)
    simp only [Act.put, List.setIfInBounds_toArray, List.set_cons_zero, List.set_cons_succ]
    refine wpAnyS_take (i := 10) (oi := ?o10b) (v := ?v10b) ?hi10b (by kernel_rfl) ?hQ10b ?hw10b trivial (fun _ => rfl) ?hy10b ?rest10b
    case hi10b => (simp only [List.getElem?_toArray, List.getElem?_cons_succ, List.getElem?_cons_zero]; exact rfl)
    case hQ10b => exact fun _ _ _ h => h
    case hw10b => rfl
    case hy10b => (intro w9 hw9; go_simp; try with_reducible rfl)
    simp only [Act.put, List.setIfInBounds_toArray, List.set_cons_zero, List.set_cons_succ]
    refine wpAnyK_take (i := 11) (oi := ?o11b) (v := ?v11b) ?hi11b (by kernel_rfl) ?hQ11b ?hw11b trivial ?hy11b ?rest11b
    case hi11b => (simp only [List.getElem?_toArray, List.getElem?_cons_succ, List.getElem?_cons_zero]; exact rfl)
    case hQ11b => exact fun _ _ _ h => h
    case hw11b => rfl
    case hy11b => (go_simp; try with_reducible rfl)
    simp only [Act.put, List.setIfInBounds_toArray, List.set_cons_zero, List.set_cons_succ]
    refine wpAnyS_take (i := 12) (oi := ?o12b) (v := ?v12b) ?hi12b (by kernel_rfl) ?hQ12b ?hw12b trivial (fun _ => rfl) ?hy12b ?rest12b
    case hi12b => (simp only [List.getElem?_toArray, List.getElem?_cons_succ, List.getElem?_cons_zero]; exact rfl)
    case hQ12b => exact fun _ _ _ h => h
    case hw12b => rfl
    case hy12b => (intro w9 hw9; go_simp; try with_reducible rfl)
    simp only [Act.put, List.setIfInBounds_toArray, List.set_cons_zero, List.set_cons_succ]
    refine wpAnyK_one (i := 13) (by kernel_rfl) (by kernel_rfl) ?st13b
    refine wpOp_skip (o := ?os13b) (w' := ?ws13b) ?his13b ?hws13b ?hrs13b ?rs13b
    case his13b => (simp only [List.getElem?_toArray, List.getElem?_cons_succ, List.getElem?_cons_zero]; exact rfl)
    case hws13b => rfl
    case hrs13b => (go_simp; try with_reducible rfl)
    refine ⟨trivial, ?_⟩
    try simp only [Act.put, List.setIfInBounds_toArray, List.set_cons_zero, List.set_cons_succ]
    refine wpAnyS_take (i := 14) (oi := ?o14b) (v := ?v14b) ?hi14b (by kernel_rfl) ?hQ14b ?hw14b trivial (fun e => absurd e (by decide +kernel)) ?hy14b ?rest14b
    case hi14b => (simp only [List.getElem?_toArray, List.getElem?_cons_succ, List.getElem?_cons_zero]; exact rfl)
    case hQ14b => exact fun _ _ _ h => h
    case hw14b => rfl
    case hy14b => (intro w9 hw9; go_simp; try with_reducible rfl)
    simp only [Act.put, List.setIfInBounds_toArray, List.set_cons_zero, List.set_cons_succ]
    refine wpAnyK_one (i := 15) (by kernel_rfl) (by kernel_rfl) ?st15b
    refine wpOp_skip (o := ?os15b) (w' := ?ws15b) ?his15b ?hws15b ?hrs15b ?rs15b
    case his15b => (simp only [List.getElem?_toArray, List.getElem?_cons_succ, List.getElem?_cons_zero]; exact rfl)
    case hws15b => rfl
    case hrs15b => (go_simp; try with_reducible rfl)
    refine ⟨trivial, ?_⟩
    try simp only [Act.put, List.setIfInBounds_toArray, List.set_cons_zero, List.set_cons_succ]
    refine wpAnyK_done (by kernel_rfl) ?_ _
    refine NoPanic.normal ?_
    go_wp2
    go_ret
    refine ⟨by rw [HE.out]; rfl, ?_⟩
    rw [HE.out]
    exact HFN.out _ rfl
end
end Go.Proofs.Ytenadnmglhghiaa.Ar
