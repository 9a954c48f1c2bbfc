/- An arena: Mark, Kill. Conditions: the memory. -/
import Derived.Test.YtenadnmglhghiaaAd
namespace Go.Proofs.Ytenadnmglhghiaa.Ar
open Go.RowKit Go.Proofs.Ytenadnmglhghiaa.Mem Go.Proofs.Ytenadnmglhghiaa.Sl Go.Shelf
open Go.Proofs.Ytenadnmglhghiaa.FnL (enc_at below_then)
set_option linter.unusedVariables false

/-- The blocks of an arena. -/
def mq (q : AAd) (i : Nat) : Prop := i = q.g ∨ i = q.b ∨ q.A = some ⟨i, 0, none⟩
section
variable {w : World} {base : Nat} {q : AAd} {lim : Int} {its : List Itm}
/-- One word of a clause that is found is written, in the row. -/
theorem row_put (h : AR w base q lim its) {i : Nat} (hi : i < its.length) (y : Itm) (hw : its[i].wd = y.wd) {j a n : Nat} (hj : j < its[i].wd) (eA : q.A = some ⟨a, 0, none⟩) (v : Int) (he : enc y = (enc its[i]).set j v) {w2 : World} (hr : App.Own w2 base 71 q.A (sumw its) q.c (UZ (flat its))) :
    App.Own (w2.setCell ⟨a, sumw (its.take i) + j, none⟩ (.int .u32 v)) base 71 q.A (sumw (its.set i y)) q.c (UZ (flat (its.set i y))) := by
  have hs := take_next hi
  have hle := take_le h.ok (i + 1)
  rw [eA] at hr ⊢
  rw [sumw_set hi y hw, flat_put h.ok hi y hw hj v he]
  have := App.Own.set_ hr (sumw (its.take i) + j) (by omega) (.int .u32 v)
  unfold UZ
  rw [List.map_set]
  exact this
theorem AR.apart (h : AR w base q lim its) {a : Nat} (eA : q.A = some ⟨a, 0, none⟩) (hn : 0 < sumw its) : a ≠ q.g ∧ a ≠ q.b ∧ q.g ≠ q.b := by
  obtain ⟨a2, e2, _, hrow⟩ := h.row.row hn
  obtain rfl : a = a2 := by rw [eA] at e2; injection e2 with e; injection e
  refine ⟨hrow.ne_blk h.blk (by decide), ?_, h.mp.ne h.blk⟩
  obtain ⟨_, hblk, _⟩ := hrow
  exact h.mp.ne hblk
/-- A clause is another one now. -/
theorem AR.again (h : AR w base q lim its) {i : Nat} (hi : i < its.length) (y : Itm) (hw : its[i].wd = y.wd) (hok : IOk y) {w2 : World}
    (hrow : App.Own w2 base 71 q.A (sumw (its.set i y)) q.c (UZ (flat (its.set i y)))) (hblk : Blk w2 q.g 69 #[.int .i64 lim, .slice q.A (sumw its) q.c, .map (some q.b), .int .i64 (waste (its.set i y) : Nat)])
    (hmp : MapK w2 q.b q.nn (refs (its.set i y))) : AR w2 base q lim (its.set i y) :=
  ⟨by rw [sumw_set hi y hw]; exact hblk, hrow, hmp, ok_set h.ok hok, h.l0, by rw [sumw_set hi y hw]; exact h.l1, by rw [List.length_set]; exact h.nb, h.gb, h.bb⟩
def Itm.mark (x : Itm) (l u : Int) : Itm := ⟨x.wd, x.id, x.l, x.red, l, u, x.dead⟩
def Itm.kill (x : Itm) : Itm := ⟨x.wd, x.id, x.l, x.red, x.lbd, x.used, true⟩
def Itm.lits (x : Itm) (l : List Int) : Itm := ⟨x.wd, x.id, l, x.red, x.lbd, x.used, x.dead⟩
def markM (its : List Itm) (r l u : Int) : Int × List Itm := match fnd its r with
  | none => (91, its)
  | some i => if l < 0 ∨ 65535 < l ∨ u < 0 ∨ 65535 < u then (2, its) else (0, its.set i ((get its r).mark l u))
theorem mark_any (h : AR w base q lim its) (r : Int) (hr : inI r) (l u : Int) (hl : inI l) (hu : inI u) : Calls Try.prog 26 #[.pointer (some ⟨q.g, 0, none⟩), .int .i64 r, .int .i64 l, .int .i64 u] w fun e w' =>
    e = .returned (.int .i64 (markM its r l u).1) ∧ AR w' base q lim (markM its r l u).2 ∧ Mod (mq q) w w' := by
  have HS := Lib.hid (is_any h r hr)
  have H := Lib.hid h
  rcases find_cases its r with ⟨h1, hf, h2⟩ | ⟨i, hi, h1, hf, h2, h3, h4⟩
  · rw [h1] at HS
    have HE := Lib.hid (show markM its r l u = (91, its) by unfold markM; rw [hf])
    clear h hf h1 h2
    go_enter Try.func26, Try.ntmps26
    go_wp2_with fail
    refine HS.out.mono ?_
    rintro e w1 ⟨rfl, rfl⟩
    go_wp2
    go_ret
    exact ⟨by rw [HE.out]; rfl, by rw [HE.out]; exact H.out, Mod.refl _ _⟩
  rw [h1] at HS
  by_cases hb : l < 0 ∨ 65535 < l ∨ u < 0 ∨ 65535 < u
  · have HE := Lib.hid (show markM its r l u = (2, its) by unfold markM; rw [hf]; exact if_pos hb)
    clear h hf h1 h2 h3 h4
    by_cases p1 : l < 0
    · clear hb
      go_enter Try.func26, Try.ntmps26
      go_wp2_with fail
      refine HS.out.mono ?_
      rintro e w1 ⟨rfl, rfl⟩
      go_wp2
      go_ret
      exact ⟨by rw [HE.out]; rfl, by rw [HE.out]; exact H.out, Mod.refl _ _⟩
    by_cases p2 : 65535 < l
    · clear hb
      go_enter Try.func26, Try.ntmps26
      go_wp2_with fail
      refine HS.out.mono ?_
      rintro e w1 ⟨rfl, rfl⟩
      go_wp2
      go_ret
      exact ⟨by rw [HE.out]; rfl, by rw [HE.out]; exact H.out, Mod.refl _ _⟩
    by_cases p3 : u < 0
    · clear hb
      go_enter Try.func26, Try.ntmps26
      go_wp2_with fail
      refine HS.out.mono ?_
      rintro e w1 ⟨rfl, rfl⟩
      go_wp2
      go_ret
      exact ⟨by rw [HE.out]; rfl, by rw [HE.out]; exact H.out, Mod.refl _ _⟩
    have p4 : 65535 < u := by omega
    clear hb
    go_enter Try.func26, Try.ntmps26
    go_wp2_with fail
    refine HS.out.mono ?_
    rintro e w1 ⟨rfl, rfl⟩
    go_wp2
    go_ret
    exact ⟨by rw [HE.out]; rfl, by rw [HE.out]; exact H.out, Mod.refl _ _⟩
  obtain ⟨a, n, hF, hn, eA, hba⟩ := h.fd hi h4
  obtain ⟨c1, w0, w1, w2, w3, wl, le, nl, fz, ok, lv⟩ := hF
  have hw := ok.wd
  have HE := Lib.hid (show markM its r l u = (0, its.set i (its[i].mark l u)) by unfold markM; rw [hf, h2]; exact if_neg hb)
  have HFN := Lib.hid (show AR (w.setCell ⟨a, sumw (its.take i) + 3, none⟩ (.int .u32 (l * 65536 + u))) base q lim (its.set i (its[i].mark l u)) ∧ Mod (mq q) w (w.setCell ⟨a, sumw (its.take i) + 3, none⟩ (.int .u32 (l * 65536 + u))) from by
    obtain ⟨n1, n2, n3⟩ := h.apart eA (by omega)
    have hm : Mod (fun k => k = a) w (w.setCell ⟨a, sumw (its.take i) + 3, none⟩ (.int .u32 (l * 65536 + u))) := Mod.setCell (S := fun k => k = a) (Mod.refl _ _) (p := ⟨a, sumw (its.take i) + 3, none⟩) (.inl rfl) _
    refine ⟨h.again hi (its[i].mark l u) rfl ⟨ok.wd, ok.id, ok.l, by show 0 ≤ l ∧ l ≤ 65535; omega, by show 0 ≤ u ∧ u ≤ 65535; omega⟩ (row_put h hi (its[i].mark l u) rfl (j := 3) (n := n) (by omega) eA _ rfl h.row) ?_ ?_, hm.mono fun k _ e => .inr (.inr (by rw [e]; exact eA))⟩
    · rw [show waste (its.set i (its[i].mark l u)) = waste its from by
        have := waste_set hi (its[i].mark l u)
        have : wst its[i] = wst (its[i].mark l u) := rfl
        omega]
      exact h.blk.mod hm (fun e => n1 e.symm)
    · rw [refs_set hi (its[i].mark l u) rfl rfl]
      exact h.mp.mod hm (fun e => n2 e.symm))
  have f3 := fz (sumw (its.take i) + 3)
  subst h3
  generalize sumw (its.take i) = r at *
  have e1 : IntKind.i64.wrap ((r : Int) + 3) = ((r + 3 : Nat) : Int) := by rw [IntWalk.i64_in _ (by omega)]; omega
  have k1 : ((r + 3 : Nat) : Int) < (n : Int) := by omega
  have q2 : bits .or .u32 (l * 65536) u = l * 65536 + u := or32 16 _ _ (by omega) (by omega) (by omega) (by omega) (by omega) (by omega)
  have p1 : ¬ l < 0 := by omega
  have p2 : ¬ 65535 < l := by omega
  have p3 : ¬ u < 0 := by omega
  have p4 : ¬ 65535 < u := by omega
  clear h h1 h2 h4 ok wl fz w0 w1 w2 hf hb hn eA hba
  go_enter Try.func26, Try.ntmps26
  go_wp2_with fail
  refine HS.out.mono ?_
  rintro e w1 ⟨rfl, rfl⟩
  go_wp2
  go_ret
  exact ⟨by rw [HE.out]; rfl, by rw [HE.out]; exact HFN.out.1, HFN.out.2⟩
def killM (its : List Itm) (r : Int) : Int × List Itm := match fnd its r with
  | none => (91, its)
  | some i => (0, its.set i (get its r).kill)
theorem refs_kill {its : List Itm} (h : ∀ x, x ∈ its → IOk x) {i : Nat} (hi : i < its.length) (a : Nat) : a ∈ refs (its.set i its[i].kill) ↔ a ∈ refs its ∧ a ≠ sumw (its.take i) := by
  rw [mem_refs, mem_refs]
  constructor
  · rintro ⟨k, hk, e, d⟩
    rw [take_set_sumw hi its[i].kill rfl] at e
    have hk' : k < its.length := by rwa [List.length_set] at hk
    by_cases hki : k = i
    · subst hki
      rw [List.getElem_set_self] at d
      exact absurd d (by simp [Itm.kill])
    · rw [List.getElem_set_ne (by omega)] at d
      exact ⟨⟨k, hk', e, d⟩, fun ea => hki (take_inj h hk' hi (by omega))⟩
  · rintro ⟨⟨k, hk, e, d⟩, hne⟩
    have hki : k ≠ i := by rintro rfl; exact hne e.symm
    refine ⟨k, by rw [List.length_set]; exact hk, by rw [take_set_sumw hi its[i].kill rfl]; exact e, ?_⟩
    rw [List.getElem_set_ne (by omega)]
    exact d
theorem wpMapDel {w : World} {ops : Array Oper} {rest : List Oper} {o : Oper} {a : Act} {Q : Exit → Act → World → Prop} (hgd : o.guard = none) (m x : Operand)
    (ho : o.op = Op.call { callee := Callee.builtin Builtin.delete, args := #[m, x], argTypes := #[66, 32] })
    {b n r : Nat} {ks ks' : List Nat} (h : MapK w b n ks) (hm : a.eval m = .map (some b)) (hv : a.eval x = .int .i64 (r : Nat)) (hr : inI r) (hk : ∀ a, a ∈ ks' ↔ a ∈ ks ∧ a ≠ r)
    (hK : ∀ w', MapK w' b n ks' → Mod (fun i => i = b) w w' → wpList Try.prog ops Q rest (a.put o.dst (.tuple #[])) w') : wpList Try.prog ops Q (o :: rest) a w := by
  refine wpList_plain hgd fun K' hK' => ?_
  obtain ⟨w', hrun, r1, r2⟩ := h.del hr hk o.type
  unfold Oper.wp
  simp [execOp, ho, resolve, invoke, builtin, hm, hv, hrun, Result.andThen]
  exact hK' _ _ (hK w' r1 r2)
set_option maxRecDepth 100000 in
theorem kill_any (h : AR w base q lim its) (r : Int) (hr : inI r) : Calls Try.prog 11 #[.pointer (some ⟨q.g, 0, none⟩), .int .i64 r] w fun e w' =>
    e = .returned (.int .i64 (killM its r).1) ∧ AR w' base q lim (killM its r).2 ∧ Mod (mq q) w w' := by
  have HS := Lib.hid (is_any h r hr)
  have H := Lib.hid h
  rcases find_cases its r with ⟨h1, hf, h2⟩ | ⟨i, hi, h1, hf, h2, h3, h4⟩
  · rw [h1] at HS
    have HE := Lib.hid (show killM its r = (91, its) by unfold killM; rw [hf])
    clear h hf h1 h2
    go_enter Try.func11, Try.ntmps11
    go_wp2_with fail
    refine HS.out.mono ?_
    rintro e w1 ⟨rfl, rfl⟩
    go_wp2
    go_ret
    exact ⟨by rw [HE.out]; rfl, by rw [HE.out]; exact H.out, Mod.refl _ _⟩
  rw [h1] at HS
  obtain ⟨a, n, hF, hn, eA, hba⟩ := h.fd hi h4
  obtain ⟨c1, w0, w1, w2, w3, wl, le, nl, fz, ok, lv⟩ := hF
  have hw := ok.wd
  have HE := Lib.hid (show killM its r = (0, its.set i its[i].kill) by unfold killM; rw [hf, h2])
  obtain ⟨n1, n2, n3⟩ := h.apart eA (by omega)
  have hwb := waste_le h.ok
  have hhd := hdI_bd its[i]
  obtain ⟨u, hu⟩ : ∃ u, u = hdI its[i] + 1 := ⟨_, rfl⟩
  have hev : hdI its[i] % 2 = 0 := by unfold hdI; rw [lv]; split <;> simp <;> omega
  have hE : enc its[i].kill = (enc its[i]).set 0 u := by
    rw [hu]
    show hdI its[i].kill :: _ = _
    rw [show hdI its[i].kill = hdI its[i] + 1 from by
      unfold hdI; rw [lv]
      show 4 * (its[i].l.length : Int) + (if its[i].red = true then 2 else 0) + 1 = 4 * (its[i].l.length : Int) + (if its[i].red = true then 2 else 0) + 0 + 1
      omega]
    rfl
  have hq : u / 4 = (its[i].l.length : Int) := by rw [hu]; unfold hdI at *; rw [lv] at *; split <;> simp <;> omega
  obtain ⟨W1, hW1⟩ : ∃ W1, W1 = w.setCell ⟨a, sumw (its.take i), none⟩ (.int .u32 u) := ⟨_, rfl⟩
  have hm1 : Mod (fun k => k = a) w W1 := by rw [hW1]; exact Mod.setCell (S := fun k => k = a) (Mod.refl _ _) (p := ⟨a, sumw (its.take i), none⟩) (.inl rfl) _
  have hrow1 : App.Own W1 base 71 q.A (sumw (its.set i its[i].kill)) q.c (UZ (flat (its.set i its[i].kill))) := by
    rw [hW1]
    exact row_put h hi its[i].kill rfl (j := 0) (n := n) (by omega) eA u hE h.row
  have hblk1 := h.blk.mod hm1 (fun e => n1 e.symm)
  have hmp1 := h.mp.mod hm1 (fun e => n2 e.symm)
  have d1 : W1.cell? ⟨q.g, 1, none⟩ = some (.slice (some ⟨a, 0, none⟩) n q.c) := by rw [← eA, hn]; exact hblk1.cell 1
  have d2 : W1.cell? ⟨q.g, 2, none⟩ = some (.map (some q.b)) := hblk1.cell 2
  have d3 : W1.cell? ⟨q.g, 3, none⟩ = some (.int .i64 (waste its : Nat)) := hblk1.cell 3
  have f3 := hblk1.frozen 3
  have d0 : W1.cell? ⟨a, sumw (its.take i), none⟩ = some (.int .u32 u) := by
    have hrd := row_put h hi its[i].kill rfl (j := 0) (n := n) (by omega) eA u hE h.row
    obtain ⟨a2, e2, _, hr2⟩ := hrow1.row (by rw [sumw_set hi its[i].kill rfl]; omega)
    obtain rfl : a = a2 := by rw [eA] at e2; injection e2 with e; injection e
    refine hr2.cell ?_
    have hi' : i < (its.set i its[i].kill).length := by rw [List.length_set]; exact hi
    have hfa := flat_at (ok_set h.ok (y := its[i].kill) ⟨ok.wd, ok.id, ok.l, ok.lbd, ok.used⟩) hi' (j := 0) (by rw [List.getElem_set_self]; show 0 < its[i].wd; omega)
    rw [List.getElem_set_self, take_set_sumw hi its[i].kill rfl, Nat.add_zero, hE] at hfa
    unfold UZ
    rw [List.getElem?_map, hfa]
    rfl
  have HZ := Lib.hid (fun W (hW : W1.drew = W ∨ W = W1.drew) => (size_raw (w := W1.drew) (g := q.g) (c := q.c) d1 d0 (by omega) nl (by omega) (by omega)))
  rw [hq] at HZ
  have HFN := Lib.hid (fun (k : Int) (hk : k = (waste its : Int) + (4 + (its[i].l.length : Int))) W (hm : Mod (fun k => k = q.b) ((W1.drew).setCell ⟨q.g, 3, none⟩ (.int .i64 k)) W) (hmp : MapK W q.b q.nn (refs (its.set i its[i].kill))) => (show AR W base q lim (its.set i its[i].kill) ∧ Mod (mq q) w W from by
    have hm2 : Mod (fun k => k = q.g) W1 ((W1.drew).setCell ⟨q.g, 3, none⟩ (.int .i64 k)) := Mod.setCell (S := fun k => k = q.g) ((Mod.refl _ W1).drew) (p := ⟨q.g, 3, none⟩) (.inl rfl) _
    refine ⟨h.again hi its[i].kill rfl ⟨ok.wd, ok.id, ok.l, ok.lbd, ok.used⟩ ((hrow1.mod hm2 fun k _ e e2 => ?_).mod hm fun k _ e e2 => ?_) ?_ hmp, ((hm1.mono fun k _ e => ?_).then_ (hm2.mono fun k _ e => ?_)).then_ (hm.mono fun k _ e => ?_)⟩
    · rw [eA] at e; injection e with e; injection e with e; omega
    · rw [eA] at e; injection e with e; injection e with e; omega
    · have hb2 := Blk.set_ (Blk.drew hblk1) 3 (.int .i64 k)
      have hwv : k = ((waste (its.set i its[i].kill) : Nat) : Int) := by
        have h5 := waste_set hi its[i].kill
        have h6 : wst its[i] = its[i].wd - 4 - its[i].l.length := by unfold wst; rw [lv]; rfl
        have h7 : wst its[i].kill = its[i].wd := rfl
        omega
      rw [← hwv]
      exact (Blk.mod hb2 hm (fun e => n3 e))
    · exact .inr (.inr (by rw [e]; exact eA))
    · exact .inl e
    · exact .inr (.inl e)))
  have HKK := Lib.hid (refs_kill h.ok hi)
  have HMP := Lib.hid (fun k => (hmp1.mod (Mod.setCell (S := fun k => k = q.g) ((Mod.refl _ W1).drew) (p := ⟨q.g, 3, none⟩) (.inl rfl) (.int .i64 k)) (fun e => n3 e.symm)))
  have f0 := fz (sumw (its.take i))
  have q1 : bits .or .u32 (hdI its[i]) 1 = u := by rw [hu]; exact or32 1 _ _ (by omega) (by omega) (by omega) (by omega) (by omega) (by omega)
  have HIN := Lib.hid (show inI (sumw (its.take i) : Nat) by unfold inI; omega)
  have HZ1 := Lib.hid (HZ.out _ (.inl rfl))
  subst h3
  generalize its.set i its[i].kill = its' at *
  have HW1 := Lib.hid hW1
  have hr4 : sumw (its.take i) < n := by omega
  have hLn : its[i].l.length ≤ 268435456 := by omega
  have hwn : waste its ≤ 268435456 := by omega
  clear h h1 h2 h4 ok wl w1 w2 w3 hf hn eA hba lv HZ hE hev hq hm1 hrow1 hblk1 hmp1 d0 fz hW1 hu hwb hw le
  generalize hdI its[i] = hv at *
  generalize its[i].l.length = L at *
  generalize sumw (its.take i) = r at *
  generalize waste its = ws at *
  go_enter Try.func11, Try.ntmps11
  go_wp2_with fail
  refine HS.out.mono ?_
  rintro e w1 ⟨rfl, rfl⟩
  go_wp2_with fail
  rw [← HW1.out]
  refine wp_region_still_tail 11 (by kernel_rfl) (by kernel_rfl) ?_
  change wpStill _ _ W1.drew _ _ _
  simp only [List.take_succ_cons, List.take_zero, List.drop_succ_cons, List.drop_zero]
  repeat still_step
  still_call (HZ1.out.mono fun _ _ h => ⟨h.1, h.2.symm⟩)
  repeat still_step
  refine wpStill_nil ?_
  change wpList _ _ _ _ _ W1.drew
  go_wp2_with (at_delete; refine wpMapDel rfl _ _ rfl (HMP.out _) rfl rfl HIN.out HKK.out ?_; intro w5 hmp5 hm5; have HM5 := Lib.hid hm5; have HP5 := Lib.hid hmp5; clear hm5 hmp5)
  go_ret
  refine ⟨by rw [HE.out]; rfl, ?_⟩
  rw [HE.out]
  exact HFN.out _ rfl _ HM5.out HP5.out
end
end Go.Proofs.Ytenadnmglhghiaa.Ar
