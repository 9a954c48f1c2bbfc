/- An arena: Shrink. Conditions: the memory. -/
import Derived.Test.YtenadnmglhghiaaAf
namespace Go.Proofs.Ytenadnmglhghiaa.Ar
open Go.RowKit Go.Proofs.Ytenadnmglhghiaa.Mem Go.Proofs.Ytenadnmglhghiaa.Sl Go.Shelf
open Go.Proofs.Ytenadnmglhghiaa.FnL (enc_at below_then)
set_option linter.unusedVariables false

theorem splice_cons {α : Type} (L : List α) (o : Nat) (v : α) (r : List α) (h : o < L.length) : splice (L.set o v) (o + 1) r = splice L o (v :: r) := by
  unfold splice
  rw [List.take_succ_eq_append_getElem (by rw [List.length_set]; exact h), List.getElem_set_self, List.take_set_of_le (Nat.le_refl _), List.drop_set_of_lt (by omega), List.append_assoc]
  simp [Nat.add_assoc, Nat.add_comm 1]
theorem splice_nil {α : Type} (L : List α) (o : Nat) : splice L o [] = L := by unfold splice; simp
theorem splice_map {α β : Type} (f : α → β) (L : List α) (o : Nat) (r : List α) : splice (L.map f) o (r.map f) = (splice L o r).map f := by unfold splice; simp
theorem Row.setCells {g : Nat} {t : TypeId} {cap : Nat} : ∀ (vs : List Value) (o : Nat) (w : World) (xs : List Value), Row w g t xs cap → o + vs.length ≤ xs.length → Row (w.setCells g o vs) g t (splice xs o vs) cap
  | [], o, w, xs, h, _ => by rw [splice_nil]; exact h
  | v :: r, o, w, xs, h, hl => by
    have hl : o + (r.length + 1) ≤ xs.length := hl
    rw [← splice_cons xs o v r (by omega)]
    exact Row.setCells r (o + 1) _ _ (h.set_ o (by omega) v) (by rw [List.length_set]; omega)
theorem Mod.setCells {S : Nat → Prop} {a : World} {g : Nat} (hg : S g) : ∀ (vs : List Value) (o : Nat) (w : World), Mod S a w → Mod S a (w.setCells g o vs)
  | [], o, w, h => h
  | v :: r, o, w, h => Mod.setCells hg r (o + 1) _ (h.setCell (p := ⟨g, o, none⟩) (.inl hg) v)
set_option maxRecDepth 100000 in
theorem zero_u32 (w : World) : (zeroValue 71).run Try.prog w = .ok (.int .u32 0) w := by rfl
theorem wpClear0 {w : World} {ops : Array Oper} {rest : List Oper} {o : Oper} {a : Act} {Q : Exit → Act → World → Prop} (hgd : o.guard = none) (s : Operand)
    (ho : o.op = Op.call { callee := Callee.builtin Builtin.clear, args := #[s], argTypes := #[67] }) (p : Option Addr) (c : Nat) (hs : a.eval s = .slice p 0 c)
    (hK : wpList Try.prog ops Q rest (a.put o.dst (.tuple #[])) w) : wpList Try.prog ops Q (o :: rest) a w := by
  refine wpList_plain hgd fun K' hK' => ?_
  have hrun : (Builtin.clear_ #[67] o.type #[.slice p 0 c]).run Try.prog w = .ok (.tuple #[]) w := by
    rcases p with _ | p <;> simp [Builtin.clear_, run_underlying Try.underlying67]
  unfold Oper.wp
  simp [execOp, ho, resolve, invoke, builtin, hs, hrun, Result.andThen]
  exact hK' _ _ hK
theorem wpClear {w : World} {ops : Array Oper} {rest : List Oper} {o : Oper} {a : Act} {Q : Exit → Act → World → Prop} (hgd : o.guard = none) (s : Operand)
    (ho : o.op = Op.call { callee := Callee.builtin Builtin.clear, args := #[s], argTypes := #[67] }) (g off n c : Nat) (hs : a.eval s = .slice (some ⟨g, off, none⟩) n c) (hn : 0 < n)
    (hc : ∀ j, j < n → (w.cell? ⟨g, off + j, none⟩).isSome = true) (hf : ∀ j, j < n → w.frozen? ⟨g, off + j, none⟩ = false)
    (hK : wpList Try.prog ops Q rest (a.put o.dst (.tuple #[])) (w.setCells g off (List.replicate n (.int .u32 0)))) : wpList Try.prog ops Q (o :: rest) a w := by
  refine wpList_plain hgd fun K' hK' => ?_
  have hrun := Lib.run_clear_slice w 67 71 o.type (.int .u32 0) Try.underlying67 zero_u32 rfl rfl g off n c hn hc hf
  unfold Oper.wp
  simp [execOp, ho, resolve, invoke, builtin, hs, hrun, Result.andThen]
  exact hK' _ _ hK
/-- A clause made shorter, in words. -/
theorem enc_shrink (x : Itm) {n : Nat} (hn : n ≤ x.l.length) (hok : IOk x) : enc (x.lits (x.l.take n)) = (splice (enc x) (4 + n) (List.replicate (x.l.length - n) 0)).set 0 (hdI (x.lits (x.l.take n))) := by
  have hw := hok.wd
  unfold splice
  show hdI (x.lits (x.l.take n)) :: x.id % 4294967296 :: x.id / 4294967296 :: (x.lbd * 65536 + x.used) :: ((x.l.take n).map u32 ++ List.replicate (x.wd - 4 - (x.l.take n).length) 0) = _
  unfold enc
  rw [Nat.add_comm 4 n]
  simp only [List.take_succ_cons, List.cons_append, List.set_cons_zero]
  rw [List.length_replicate, show n + 4 + (x.l.length - n) = x.l.length + 4 by omega]
  simp only [List.drop_succ_cons]
  rw [List.take_append_of_le_length (by rw [List.length_map]; exact hn), List.drop_append, List.length_map, Nat.sub_self, List.drop_zero, List.drop_eq_nil_of_le (by rw [List.length_map]; omega), List.nil_append, List.map_take, List.length_take, Nat.min_eq_left hn]
  congr 6
  rw [List.replicate_append_replicate]
  congr 1
  omega
theorem splice_app {α : Type} (A B C : List α) (a j : Nat) (vs : List α) (ha : A.length = a) (h : j + vs.length ≤ B.length) : splice (A ++ (B ++ C)) (a + j) vs = A ++ (splice B j vs ++ C) := by
  subst ha
  unfold splice
  rw [List.take_length_add_append, Nat.add_assoc, List.drop_length_add_append, List.take_append_of_le_length (by omega), List.drop_append_of_le_length (by omega)]
  simp [List.append_assoc]
theorem flat_shrink {its : List Itm} (h : ∀ x, x ∈ its → IOk x) {i : Nat} (hi : i < its.length) {n : Nat} (hn : n ≤ its[i].l.length) :
    flat (its.set i (its[i].lits (its[i].l.take n))) = (splice (flat its) (sumw (its.take i) + (4 + n)) (List.replicate (its[i].l.length - n) 0)).set (sumw (its.take i)) (hdI (its[i].lits (its[i].l.take n))) := by
  have hok := h its[i] (List.getElem_mem hi)
  have hw := hok.wd
  have hl := flat_len (its := its.take i) fun x hx => h x (List.mem_of_mem_take hx)
  have hE := enc_len hok
  have hsl := length_splice (enc its[i]) (4 + n) (List.replicate (its[i].l.length - n) 0) (by rw [List.length_replicate]; omega)
  rw [flat_set h hi (its[i].lits (its[i].l.take n)) rfl, enc_shrink its[i] hn hok]
  conv => rhs; rw [flat_split hi]
  rw [splice_app _ _ _ _ _ _ hl (by rw [List.length_replicate]; omega), List.set_append_right (sumw (its.take i)) _ (by omega), hl, Nat.sub_self, List.set_append_left 0 _ (by omega)]
section
variable {w : World} {base : Nat} {q : AAd} {lim : Int} {its : List Itm}
def shrinkM (its : List Itm) (r n : Int) : Int × List Itm := match fnd its r with
  | none => (91, its)
  | some p => if n < 0 ∨ ((get its r).l.length : Int) < n then (2, its) else (0, its.set p ((get its r).lits ((get its r).l.take n.toNat)))
set_option maxRecDepth 100000 in
set_option maxHeartbeats 2000000 in
theorem shrink_any (h : AR w base q lim its) (r : Int) (hr : inI r) (n : Int) (hn0 : inI n) : Calls Try.prog 24 #[.pointer (some ⟨q.g, 0, none⟩), .int .i64 r, .int .i64 n] w fun e w' =>
    e = .returned (.int .i64 (shrinkM its r n).1) ∧ AR w' base q lim (shrinkM its r n).2 ∧ Mod (mq q) w w' := by
  have HS := Lib.hid (is_any h r hr)
  have H := Lib.hid h
  rcases find_cases its r with ⟨h1, hf, h2⟩ | ⟨p, hp, h1, hf, h2, h3, h4⟩
  · rw [h1] at HS
    have HE := Lib.hid (show shrinkM its r n = (91, its) by unfold shrinkM; rw [hf])
    clear h hf h1 h2
    go_enter Try.func24, Try.ntmps24
    go_wp2_with fail
    refine HS.out.mono ?_
    rintro e w1 ⟨rfl, rfl⟩
    go_wp2
    go_ret
    exact ⟨by rw [HE.out]; rfl, by rw [HE.out]; exact H.out, Mod.refl _ _⟩
  rw [h1] at HS
  have HZ := Lib.hid (size_any h hp h4)
  rw [← h3] at HZ
  obtain ⟨a, N, hF, hN, eA, hba⟩ := h.fd hp h4
  have hLn : its[p].l.length ≤ 268435456 := by have := hF.ok.wd; have := hF.le; have := hF.nl; omega
  by_cases hb : n < 0 ∨ (its[p].l.length : Int) < n
  · have HE := Lib.hid (show shrinkM its r n = (2, its) by unfold shrinkM; rw [hf, h2]; exact if_pos hb)
    clear h hf h1 h2 h3 h4 hF hN eA hba
    generalize its[p].l.length = L at *
    by_cases p1 : n < 0
    · clear hb
      go_enter Try.func24, Try.ntmps24
      go_wp2_with fail
      refine HS.out.mono ?_
      rintro e w1 ⟨rfl, rfl⟩
      go_wp2_with fail
      refine HZ.out.mono ?_
      rintro e w1 ⟨rfl, rfl⟩
      go_wp2
      go_ret
      exact ⟨by rw [HE.out]; rfl, by rw [HE.out]; exact H.out, Mod.refl _ _⟩
    have p4 : (L : Int) < n := by omega
    clear hb
    go_enter Try.func24, Try.ntmps24
    go_wp2_with fail
    refine HS.out.mono ?_
    rintro e w1 ⟨rfl, rfl⟩
    go_wp2_with fail
    refine HZ.out.mono ?_
    rintro e w1 ⟨rfl, rfl⟩
    go_wp2
    go_ret
    exact ⟨by rw [HE.out]; rfl, by rw [HE.out]; exact H.out, Mod.refl _ _⟩
  obtain ⟨n, rfl⟩ : ∃ n' : Nat, n = n' := ⟨n.toNat, by omega⟩
  have HE := Lib.hid (show shrinkM its r n = (0, its.set p (its[p].lits (its[p].l.take n))) by unfold shrinkM; rw [hf, h2]; exact if_neg hb)
  obtain ⟨c1, w0, w1, w2, w3, wl, le, nl, fz, ok, lv⟩ := hF
  have hw := ok.wd
  have hnl : n ≤ its[p].l.length := by omega
  obtain ⟨n1, n2, n3⟩ := h.apart eA (by omega)
  have hoky : IOk (its[p].lits (its[p].l.take n)) := ⟨by show 4 + (its[p].l.take n).length ≤ its[p].wd; rw [List.length_take]; omega, ok.id, fun y hy => ok.l y (List.mem_of_mem_take hy), ok.lbd, ok.used⟩
  have hrow : Row w a 71 (UZ (flat its)) q.c ∧ q.c ≤ maxLen := by
    obtain ⟨_, ⟨e, _⟩ | ⟨a2, e2, _, hcm, hrow⟩⟩ := h.row
    · rw [eA] at e; cases e
    · obtain rfl : a = a2 := by rw [eA] at e2; injection e2 with e; injection e
      exact ⟨hrow, hcm⟩
  obtain ⟨hrow, hcm⟩ := hrow
  have hcap : N ≤ q.c := by
    have h5 := hrow.le
    unfold UZ at h5
    rw [List.length_map, flat_len h.ok] at h5
    omega
  have hhd := hdI_bd its[p]
  obtain ⟨u, hu⟩ : ∃ u, u = hdI (its[p].lits (its[p].l.take n)) := ⟨_, rfl⟩
  have hu2 : u = 4 * (n : Int) + hdI its[p] % 4 := by
    rw [hu]
    have e : ((its[p].l.take n).length : Int) = n := by rw [List.length_take]; omega
    show 4 * ((its[p].l.take n).length : Int) + (if its[p].red = true then 2 else 0) + (if its[p].dead = true then 1 else 0) = _
    rw [e]
    unfold hdI
    rw [lv]
    split <;> simp <;> omega
  have hq : bits .or .u32 (n * 4 : Int) (bits .and .u32 (hdI its[p]) 3) = u := by
    rw [and3 _ (by omega) (by omega), or32 2 _ _ (by omega) (by omega) (by omega) (by omega) (by omega) (by omega)]
    omega
  have hwb := waste_le h.ok
  have HW1 := Lib.hid (fun W1 (hm : Mod (fun k => k = a) w W1) (hrow : Row W1 a 71 (UZ (splice (flat its) (sumw (its.take p) + (4 + n)) (List.replicate (its[p].l.length - n) 0))) q.c) =>
    (show W1.cell? ⟨q.g, 1, none⟩ = some (.slice (some ⟨a, 0, none⟩) N q.c) ∧ W1.cell? ⟨q.g, 3, none⟩ = some (.int .i64 (waste its : Nat)) ∧ W1.cell? ⟨a, sumw (its.take p), none⟩ = some (.int .u32 (hdI its[p])) ∧ W1.frozen? ⟨a, sumw (its.take p), none⟩ = false ∧ W1.frozen? ⟨q.g, 3, none⟩ = false from by
      have hblk1 := h.blk.mod hm (fun e => n1 e.symm)
      refine ⟨by rw [← eA, hN]; exact hblk1.cell 1, hblk1.cell 3, hrow.cell ?_, hrow.frozen _, hblk1.frozen 3⟩
      unfold UZ splice
      have hl := flat_len h.ok
      rw [List.getElem?_map, List.getElem?_append_left (by rw [List.length_take]; omega), List.getElem?_take_of_lt (by omega)]
      have := flat_at h.ok hp (j := 0) (by omega)
      rw [Nat.add_zero] at this
      rw [this]
      rfl))
  have HFN := Lib.hid (fun W1 (hm : Mod (fun k => k = a) w W1) (hrow : Row W1 a 71 (UZ (splice (flat its) (sumw (its.take p) + (4 + n)) (List.replicate (its[p].l.length - n) 0))) q.c) (k : Int) (hk : k = (waste its : Int) + ((its[p].l.length : Int) - n)) =>
    (show AR (((W1.drew).setCell ⟨a, sumw (its.take p), none⟩ (.int .u32 u)).setCell ⟨q.g, 3, none⟩ (.int .i64 k)) base q lim (its.set p (its[p].lits (its[p].l.take n))) ∧ Mod (mq q) w (((W1.drew).setCell ⟨a, sumw (its.take p), none⟩ (.int .u32 u)).setCell ⟨q.g, 3, none⟩ (.int .i64 k)) from by
      have hl := flat_len h.ok
      have hma : Mod (fun k => k = a) w ((W1.drew).setCell ⟨a, sumw (its.take p), none⟩ (.int .u32 u)) := Mod.setCell (S := fun k => k = a) hm.drew (p := ⟨a, sumw (its.take p), none⟩) (.inl rfl) _
      have hmg : Mod (fun k => k = q.g) ((W1.drew).setCell ⟨a, sumw (its.take p), none⟩ (.int .u32 u)) (((W1.drew).setCell ⟨a, sumw (its.take p), none⟩ (.int .u32 u)).setCell ⟨q.g, 3, none⟩ (.int .i64 k)) := Mod.setCell (S := fun k => k = q.g) (Mod.refl _ _) (p := ⟨q.g, 3, none⟩) (.inl rfl) _
      have hlen : (splice (flat its) (sumw (its.take p) + (4 + n)) (List.replicate (its[p].l.length - n) 0)).length = sumw its := by
        rw [length_splice _ _ _ (by rw [List.length_replicate]; omega), hl]
      refine ⟨h.again hp (its[p].lits (its[p].l.take n)) rfl hoky ?_ ?_ ?_, (hma.mono fun k _ e => .inr (.inr (by rw [e]; exact eA))).then_ (hmg.mono fun k _ e => .inl e)⟩
      · rw [eA, sumw_set hp (its[p].lits (its[p].l.take n)) rfl, flat_shrink h.ok hp hnl, ← hu]
        have h6 : Row ((W1.drew).setCell ⟨a, sumw (its.take p), none⟩ (.int .u32 u)) a 71 (UZ ((splice (flat its) (sumw (its.take p) + (4 + n)) (List.replicate (its[p].l.length - n) 0)).set (sumw (its.take p)) u)) q.c := by
          unfold UZ
          rw [List.map_set]
          exact Row.set_ (hrow.drewN 1) (sumw (its.take p)) (by unfold UZ; rw [List.length_map, hlen]; omega) _
        refine ⟨by unfold UZ; rw [List.length_map, List.length_set, hlen], .inr ⟨a, rfl, hba, hcm, h6.mod hmg (fun e => n1 e)⟩⟩
      · have hb2 := Blk.set_ (h.blk.mod hma (fun e => n1 e.symm)) 3 (.int .i64 k)
        have hwv : k = ((waste (its.set p (its[p].lits (its[p].l.take n))) : Nat) : Int) := by
          have h5 := waste_set hp (its[p].lits (its[p].l.take n))
          have h6 : wst its[p] = its[p].wd - 4 - its[p].l.length := by unfold wst; rw [lv]; rfl
          have h7 : wst (its[p].lits (its[p].l.take n)) = its[p].wd - 4 - n := by
            show (if its[p].dead = true then its[p].wd else its[p].wd - 4 - (its[p].l.take n).length) = _
            rw [lv, List.length_take, Nat.min_eq_left hnl]; rfl
          omega
        rw [← hwv]
        exact hb2
      · rw [refs_set hp (its[p].lits (its[p].l.take n)) rfl rfl]
        exact (h.mp.mod hma (fun e => n2 e.symm)).mod hmg (fun e => n3 e.symm)))
  subst h3
  generalize its.set p (its[p].lits (its[p].l.take n)) = its' at *
  have HR0 := Lib.hid hrow
  have hfl := flat_len h.ok
  have HC1 := Lib.hid (show n < its[p].l.length → Mod (fun k => k = a) w (w.setCells a (sumw (its.take p) + 4 + n) (List.replicate (its[p].l.length - n) (.int .u32 0))) ∧ Row (w.setCells a (sumw (its.take p) + 4 + n) (List.replicate (its[p].l.length - n) (.int .u32 0))) a 71 (UZ (splice (flat its) (sumw (its.take p) + (4 + n)) (List.replicate (its[p].l.length - n) 0))) q.c ∧ (∀ j, j < its[p].l.length - n → (w.cell? ⟨a, sumw (its.take p) + 4 + n + j, none⟩).isSome = true) from fun hlt => by
    refine ⟨Mod.setCells (S := fun k => k = a) rfl _ _ _ (Mod.refl _ _), ?_, fun j hj => ?_⟩
    · have h5 := Row.setCells (List.replicate (its[p].l.length - n) (.int .u32 0)) (sumw (its.take p) + 4 + n) w (UZ (flat its)) hrow (by rw [List.length_replicate]; unfold UZ; rw [List.length_map, hfl]; omega)
      unfold UZ at h5 ⊢
      rw [show List.replicate (its[p].l.length - n) (Value.int .u32 0) = (List.replicate (its[p].l.length - n) (0 : Int)).map (Value.int .u32) from by simp, splice_map] at h5
      rw [← Nat.add_assoc]
      simpa using h5
    · rw [hrow.cell (v := .int .u32 ((flat its)[sumw (its.take p) + 4 + n + j]'(by omega))) (by unfold UZ; rw [List.getElem?_map, List.getElem?_eq_getElem]; rfl)]
      rfl)
  have HC0 := Lib.hid (show n = its[p].l.length → Row w a 71 (UZ (splice (flat its) (sumw (its.take p) + (4 + n)) (List.replicate (its[p].l.length - n) 0))) q.c from fun e => by
    rw [e, Nat.sub_self]
    show Row w a _ (UZ (splice (flat its) _ [])) q.c
    rw [splice_nil]; exact hrow)
  have hr4 : sumw (its.take p) + 4 + its[p].l.length ≤ N := by omega
  have hwn : waste its ≤ 268435456 := by omega
  have HFZ := Lib.hid fz
  clear h h1 h2 h4 ok wl w1 w2 w3 hf hN eA hba lv hu hu2 hwb hw le hb hoky hrow hfl fz
  generalize hdI its[p] = hv at *
  generalize its[p].l.length = L at *
  generalize sumw (its.take p) = r at *
  generalize waste its = ws at *
  generalize flat its = F at *
  have ew1 : IntKind.u32.wrap (n : Int) = n := w32 _ (by omega) (by omega)
  have ew2 : IntKind.u32.wrap ((n : Int) * 4) = n * 4 := w32 _ (by omega) (by omega)
  have kr1 : (r : Int) < (N : Int) := by omega
  have kr2 : r < N := by omega
  have kr3 : (0 : Int) ≤ (r : Int) := Int.natCast_nonneg _
  rcases Nat.lt_or_ge n L with hnL | hnL
  · obtain ⟨hm1, hrow1, hcs⟩ := HC1.out hnL
    have hclr : ∀ ty, (Builtin.clear_ #[67] ty #[.slice (some ⟨a, r + 4 + n, none⟩) (r + 4 + L - (r + 4 + n)) (q.c - (r + 4 + n))]).run Try.prog w = .ok (.tuple #[]) (w.setCells a (r + 4 + n) (List.replicate (L - n) (.int .u32 0))) := fun ty => by
      rw [show r + 4 + L - (r + 4 + n) = L - n by omega]
      exact Lib.run_clear_slice w 67 71 ty (.int .u32 0) Try.underlying67 zero_u32 rfl rfl a (r + 4 + n) (L - n) _ (by omega) hcs (fun j _ => HFZ.out _)
    obtain ⟨W1, hW1⟩ : ∃ W1, W1 = w.setCells a (r + 4 + n) (List.replicate (L - n) (.int .u32 0)) := ⟨_, rfl⟩
    rw [← hW1] at hm1 hrow1
    simp only [← hW1] at hclr
    obtain ⟨d1, d3, d0, f0, f3⟩ := HW1.out W1 hm1 hrow1
    have HM1 := Lib.hid hm1
    have HRW1 := Lib.hid hrow1
    clear HC1 HC0 hm1 hrow1 hcs hW1
    have k1 : ((r + 4 + n : Nat) : Int) < (q.c : Int) := by omega
    have k2 : r + 4 + n < q.c := by omega
    go_enter Try.func24, Try.ntmps24
    go_wp2_with fail
    refine HS.out.mono ?_
    rintro e w1 ⟨rfl, rfl⟩
    go_wp2_with fail
    refine HZ.out.mono ?_
    rintro e w1 ⟨rfl, rfl⟩
    go_wp2_with fail
    refine wp_region_still_tail 18 (by kernel_rfl) (by kernel_rfl) ?_
    change wpStill _ _ W1.drew _ _ _
    simp only [List.take_succ_cons, List.take_zero, List.drop_succ_cons, List.drop_zero]
    repeat still_step
    refine wpStill_nil ?_
    change wpList _ _ _ _ _ W1.drew
    go_wp2
    go_ret
    refine ⟨by rw [HE.out]; rfl, ?_⟩
    rw [HE.out]
    exact HFN.out W1 HM1.out HRW1.out _ (by omega)
  · obtain rfl : n = L := by omega
    have hclr : ∀ ty p c W, (Builtin.clear_ #[67] ty #[.slice p 0 c]).run Try.prog W = .ok (.tuple #[]) W := fun ty p c W => by
      rcases p with _ | p <;> simp [Builtin.clear_, run_underlying Try.underlying67]
    have hrow1 := HC0.out rfl
    have hm1 : Mod (fun k => k = a) w w := Mod.refl _ _
    obtain ⟨d1, d3, d0, f0, f3⟩ := HW1.out w hm1 hrow1
    have HM1 := Lib.hid hm1
    have HRW1 := Lib.hid hrow1
    clear HC1 HC0 hm1 hrow1 hnL
    have hnn : ¬ (n : Int) < n := by omega
    rcases Nat.lt_or_ge (r + 4 + n) q.c with k2 | k2
    · have k1 : ((r + 4 + n : Nat) : Int) < (q.c : Int) := by omega
      go_enter Try.func24, Try.ntmps24
      go_wp2_with fail
      refine HS.out.mono ?_
      rintro e w1 ⟨rfl, rfl⟩
      go_wp2_with fail
      refine HZ.out.mono ?_
      rintro e w1 ⟨rfl, rfl⟩
      go_wp2_with fail
      refine wp_region_still_tail 18 (by kernel_rfl) (by kernel_rfl) ?_
      change wpStill _ _ w.drew _ _ _
      simp only [List.take_succ_cons, List.take_zero, List.drop_succ_cons, List.drop_zero]
      repeat still_step
      refine wpStill_nil ?_
      change wpList _ _ _ _ _ w.drew
      go_wp2
      go_ret
      refine ⟨by rw [HE.out]; rfl, ?_⟩
      rw [HE.out]
      exact HFN.out w HM1.out HRW1.out _ (by omega)
    · have hcc : q.c = r + 4 + n := by omega
      rw [hcc] at c1 d1
      clear hcc hcap k2
      go_enter Try.func24, Try.ntmps24
      go_wp2_with fail
      refine HS.out.mono ?_
      rintro e w1 ⟨rfl, rfl⟩
      go_wp2_with fail
      refine HZ.out.mono ?_
      rintro e w1 ⟨rfl, rfl⟩
      go_wp2_with fail
      refine wp_region_still_tail 18 (by kernel_rfl) (by kernel_rfl) ?_
      change wpStill _ _ w.drew _ _ _
      simp only [List.take_succ_cons, List.take_zero, List.drop_succ_cons, List.drop_zero]
      repeat still_step
      refine wpStill_nil ?_
      change wpList _ _ _ _ _ w.drew
      go_wp2
      go_ret
      refine ⟨by rw [HE.out]; rfl, ?_⟩
      rw [HE.out]
      exact HFN.out w HM1.out HRW1.out _ (by omega)
end
end Go.Proofs.Ytenadnmglhghiaa.Ar
