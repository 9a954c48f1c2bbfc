/- A heap's row: Pop, Push. Conditions: the memory. -/
import Derived.Test.YtienomdennbkpaaHc
import Derived.Maps.AppendAt
namespace Go.Proofs.Ytienomdennbkpaa.He
open Go.RowKit Go.Proofs.Ytienomdennbkpaa.Mem Go.Proofs.Ytienomdennbkpaa.Sl Go.Shelf
open Go.Proofs.Ytienomdennbkpaa.FnL (enc_at below_then)
open Go.Proofs.Ytienomdennbkpaa.Lt (Later wp_region_later)
set_option linter.unusedVariables false

theorem wpAppZ {w : World} {ops : Array Oper} {rest : List Oper} {o : Oper} {a : Act} {Q : Exit → Act → World → Prop} (hgd : o.guard = none) (s x : Operand)
    (ho : o.op = .call { callee := .builtin .append, args := #[s, x], argTypes := #[31, 31] })
    (base : Nat) (A : Option Addr) (n c : Nat) (xs : List Int) (hs : a.eval s = .slice A n c) (hown : App.Own w base 3 A n c (LZ xs))
    (A2 : Option Addr) (m c2 : Nat) (news : List Int) (hx : a.eval x = .slice A2 m c2) (hl : m = news.length) (hr : RdV w A2 (LZ news)) (hnil : A2 = none → c2 = 0)
    (h63 : n + m ≤ 4000000) (hbase : base ≤ w.heap.size) (r : Nat) (hrr : n + m = r)
    (h : ∀ A' c' w', App.Own w' base 3 A' r c' (LZ (xs ++ news)) → w.grownBy w' (Value.slice A n c).ownBlock → wpList Try.prog ops Q rest (a.put o.dst (.slice A' r c')) w') : wpList Try.prog ops Q (o :: rest) a w := by
  subst hrr
  obtain ⟨i0, hi⟩ := Option.isSome_iff_exists.1 (show (Try.prog.info? 3).isSome = true by kernel_rfl)
  have hz : (Try.prog.info? 3).map (fun i => (i.zero, i.size, i.bytes)) = some (some (.int .i64 0), 1, 8) := by kernel_rfl
  rw [hi] at hz
  injection hz with hz
  injection hz with hz0 hz
  injection hz with hz1 hz2
  refine App.wpList_app hgd s x 31 ho base 3 i0 (.int .i64 0) 8 Try.underlying31 hi hz0 hz1 hz2 rfl (.slice A n c) n (LZ xs) hs hown.own A2 m c2 (LZ news) hx (by simpa [LZ] using hl) hr hnil one_LZ (by unfold maxLen; omega) (by omega) hbase (fun v' w' h1 h2 => ?_)
  obtain ⟨A', c', rfl, hO⟩ := App.Own.of h1
  exact h A' c' w' (by rw [LZ, List.map_append]; exact hO) h2
theorem one_rd (w : World) (y : Int) (t : TypeId) : RdV (w.alloc (.cells #[.int .i64 y] t)) (some ⟨w.heap.size, 0, none⟩) (LZ [y]) := by
  have := (Row.new w t (LZ [y])).rd
  simpa [LZ] using this
theorem wpAppOne {w : World} {ops : Array Oper} {rest : List Oper} {o : Oper} {a : Act} {Q : Exit → Act → World → Prop} (hgd : o.guard = none) (s x : Operand)
    (ho : o.op = .call { callee := .builtin .append, args := #[s, x], argTypes := #[31, 31] })
    (base : Nat) (A : Option Addr) (n c : Nat) (xs : List Int) (hs : a.eval s = .slice A n c) (hown : App.Own w base 3 A n c (LZ xs))
    (b : Nat) (c2 : Nat) (y : Int) (hx : a.eval x = .slice (some ⟨b, 0, none⟩) 1 c2) (hr : w.cell? ⟨b, 0, none⟩ = some (.int .i64 y))
    (h63 : n + 1 ≤ 4000000) (hbase : base ≤ w.heap.size)
    (h : ∀ A' c' w', App.Own w' base 3 A' (n + 1) c' (LZ (xs ++ [y])) → w.grownBy w' (Value.slice A n c).ownBlock → (∀ i, A' = some ⟨i, 0, none⟩ → A = some ⟨i, 0, none⟩ ∨ i = w.heap.size) → wpList Try.prog ops Q rest (a.put o.dst (.slice A' (n + 1) c')) w') : wpList Try.prog ops Q (o :: rest) a w := by
  obtain ⟨i0, hi⟩ := Option.isSome_iff_exists.1 (show (Try.prog.info? 3).isSome = true by kernel_rfl)
  have hz : (Try.prog.info? 3).map (fun i => (i.zero, i.size, i.bytes)) = some (some (.int .i64 0), 1, 8) := by kernel_rfl
  rw [hi] at hz
  injection hz with hz
  injection hz with hz0 hz
  injection hz with hz1 hz2
  refine wpList_append_own_at w hgd s x 31 ho base 3 i0 (.int .i64 0) 1 8 Try.underlying31 hi hz0 hz1 hz2 rfl (by decide) (.slice A n c) n (LZ xs) hs hown.own ⟨b, 0, none⟩ 1 c2 (LZ [y]) hx rfl (fun j u hj => ?_) one_LZ (by unfold maxLen; omega) (by omega) hbase (fun v' w' h1 h2 h3 h4 => ?_)
  · rcases j with _ | j
    · cases hj
      rw [Go.WideShapes.add_plain]
      exact hr
    · cases hj
  · obtain ⟨A', c', rfl, hO⟩ := App.Own.of h1
    refine h A' c' w' (by rw [LZ, List.map_append]; exact hO) h2 (fun i e => ?_)
    subst e
    rcases h4 with h4 | h4
    · left
      obtain ⟨_, ⟨e2, _⟩ | ⟨g, e2, _⟩⟩ := hown
      · subst e2
        exact absurd (show some i = none from h4) (by simp)
      · subst e2
        have h5 : i = g := Option.some.inj h4
        rw [h5]
    · right
      exact Option.some.inj h4
theorem HR.pop {w : World} {B N : Nat} {q : HA} {l pl s : List Int} {v : Nat} (h : HR w B N q ⟨l ++ [(v : Int)], pl, s⟩) {W : World}
    (hW : W = ((w.setCell ⟨q.g, 0, none⟩ (.slice q.iA l.length q.ic)).setCell ⟨q.p, v, none⟩ (.int .i64 (-1)))) :
    HR W B N q ⟨l, pl.set v (-1), s⟩ ∧ Mod (mine q) w W := by
  have hm : Mod (fun j => j = q.g ∨ j = q.p) w W := by
    rw [hW]
    exact (Mod.setCell (S := fun j => j = q.g ∨ j = q.p) (Mod.refl _ _) (p := ⟨q.g, 0, none⟩) (.inl (.inl rfl)) _).setCell (p := ⟨q.p, v, none⟩) (.inl (.inr rfl)) _
  obtain ⟨a, eA, _⟩ := h.at_ (i := 0) (by simp)
  obtain ⟨n1, n2, n3⟩ := h.gi eA
  have hv := h.ord.rg (v : Int) (by simp)
  have ho := h.ord.pop
  rw [Int.toNat_natCast] at ho
  refine ⟨⟨?_, ?_, ?_, ?_, ho, h.sl, h.ap, h.bg, h.hN, ?_⟩, hm.mono fun j _ e => e.elim (fun e => .inl e) (fun e => .inr (.inl e))⟩
  · have h1 := h.blk.set_ 0 (.slice q.iA l.length q.ic)
    have h2 := h1.far (p := ⟨q.p, v, none⟩) h.gp (.int .i64 (-1))
    rw [hW]
    exact h2
  · have h1 := h.inn.mod hm (fun j _ e => fun e2 => by rw [eA] at e; cases e; exact e2.elim n1 n2)
    obtain ⟨_, ⟨e2, _⟩ | ⟨g, e2, h2, h3, r, h4, h5⟩⟩ := h1
    · rw [eA] at e2; cases e2
    · refine ⟨by rw [LZ_len], .inr ⟨g, e2, h2, h3, .int .i64 (v : Int) :: r, ?_, ?_⟩⟩
      · have h6 : LZ (l ++ [(v : Int)]) ++ r = LZ l ++ .int .i64 (v : Int) :: r := by unfold LZ; simp
        rw [← h6]; exact h4
      · have h6 : (LZ (l ++ [(v : Int)])).length = (LZ l).length + 1 := by rw [LZ_len, LZ_len]; simp
        have h5 : q.ic = (LZ (l ++ [(v : Int)])).length + r.length := h5
        have h7 : (LZ (⟨l, pl.set v (-1), s⟩ : HM).l).length = (LZ l).length := rfl
        rw [List.length_cons, h5, h6, h7]; omega
  · have h1 := (h.plr.far (p := ⟨q.g, 0, none⟩) (Ne.symm h.gp) (.slice q.iA l.length q.ic)).set_ v (by rw [LZ_len, h.ord.len]; omega) (.int .i64 (-1))
    rw [LZ_set] at h1
    rw [hW]
    exact h1
  · exact h.scr.mod hm (fun e => e.elim (fun e => h.gs e.symm) (fun e => h.ps e.symm))
  · intro x hx
    rcases List.mem_or_eq_of_mem_set hx with hx | rfl
    · exact h.pb x hx
    · unfold inI; omega
set_option maxRecDepth 100000 in
theorem rpop_any {w : World} {B N : Nat} {q : HA} {l pl s : List Int} {v : Nat} (h : HR w B N q ⟨l ++ [(v : Int)], pl, s⟩) :
    Calls Try.prog 93 #[.pointer (some ⟨q.g, 0, none⟩)] w fun e w' => e = .returned (.iface 3 (.int .i64 (v : Int))) ∧ (∃ pl', HR w' B N q ⟨l, pl', s⟩) ∧ Mod (mine q) w w' := by
  have hlen : (l ++ [(v : Int)]).length = l.length + 1 := by simp
  have c0 : w.cell? ⟨q.g, 0, none⟩ = some (.slice q.iA (l.length + 1) q.ic) := by rw [← hlen]; exact h.blk.cell 0
  have c1 : w.cell? ⟨q.g, 1, none⟩ = some (.slice (some ⟨q.p, 0, none⟩) (N + 1) q.pc) := h.blk.cell 1
  have hgv : (l ++ [(v : Int)]).getD l.length 0 = (v : Int) := by simp [List.getD_eq_getElem?_getD]
  obtain ⟨a, eA, ci⟩ : ∃ a, q.iA = some ⟨a, 0, none⟩ ∧ w.cell? ⟨a, l.length, none⟩ = some (.int .i64 (v : Int)) := by
    obtain ⟨a, eA, ci, _⟩ := h.at_ (i := l.length) (by simp)
    exact ⟨a, eA, by rw [← hgv]; exact ci⟩
  have hv := h.ord.rg (v : Int) (by simp)
  have hl := h.lenN
  have hl : (l ++ [(v : Int)]).length ≤ N := hl
  rw [hlen] at hl
  have hN := h.hN
  have px := h.pl_ (v := v) (by omega)
  have fx := h.plr.frozen v
  have f0 := h.blk.frozen 0
  have hic : l.length + 1 ≤ q.ic := by
    obtain ⟨a2, _, _, hr⟩ := h.inn.row (by simp)
    have := hr.le
    rw [LZ_len, hlen] at this
    exact this
  have n4 := h.gp
  have HF := Lib.hid (fun n W (hW : W = (((w.drewN n).drew.setCell ⟨q.g, 0, none⟩ (.slice q.iA l.length q.ic)).setCell ⟨q.p, v, none⟩ (.int .i64 (-1)))) => (show (∃ pl', HR W B N q ⟨l, pl', s⟩) ∧ Mod (mine q) w W from by
    have h1 := (h.drewN n).drew.pop hW
    exact ⟨⟨_, h1.1⟩, Mod.then_ ((Mod.refl _ _).drewN n).drew h1.2⟩))
  rw [eA] at c0 HF
  have hL1 : (l.length : Int) ≤ (q.ic : Int) := by omega
  have hL2 : (0 : Int) ≤ (l.length : Int) := by omega
  have hv1 : (v : Int) < (N : Int) + 1 := by omega
  have e1 : IntKind.i64.wrap (((l.length + 1 : Nat) : Int) - 1) = (l.length : Int) := by rw [IntWalk.i64_in _ (by omega)]; omega
  have e0 : IntKind.i64.wrap (l.length : Int) = (l.length : Int) := IntWalk.i64_in _ (by omega)
  have e2 : IntKind.i64.wrap ((l.length : Int) + 1 - 1) = (l.length : Int) := by rw [IntWalk.i64_in _ (by omega)]; omega
  have hv2 : v < N + 1 := by omega
  clear h hgv
  generalize (⟨l ++ [(v : Int)], pl, s⟩ : HM).pl.getD v 0 = ox at *
  generalize l.length = L at *
  go_enter Try.func93, Try.ntmps93
  go_wp2_with fail
  go_quiet (fail)
  go_wp2_with fail
  refine wp_region_still_tail 14 (by kernel_rfl) (by kernel_rfl) ?_
  change wpStill _ _ (w.drewN nq).drew _ _ _
  simp only [List.take_succ_cons, List.take_zero, List.drop_succ_cons, List.drop_zero]
  repeat still_step
  refine wpStill_nil ?_
  change wpList _ _ _ _ _ (w.drewN nq).drew
  go_wp2
  go_ret
  exact ⟨rfl, HF.out _ _ rfl⟩
theorem HR.push {w : World} {B N : Nat} {q : HA} {m : HM} (h : HR w B N q m) {v : Nat} (hv : 1 ≤ v ∧ v ≤ N) (hn : (v : Int) ∉ m.l) {W0 W1 W : World} {A : Option Addr} {c : Nat}
    (hW0 : W0 = ((w.setCell ⟨q.p, v, none⟩ (.int .i64 (m.l.length : Int))).alloc (.cells #[.int .i64 (v : Int)] 3)).drew)
    (hO : App.Own W1 B 3 A (m.l.length + 1) c (LZ (m.l ++ [(v : Int)]))) (hg : W0.grownBy W1 (Value.slice q.iA m.l.length q.ic).ownBlock)
    (hA : ∀ i, A = some ⟨i, 0, none⟩ → q.iA = some ⟨i, 0, none⟩ ∨ i = W0.heap.size)
    (hW : W = W1.setCell ⟨q.g, 0, none⟩ (.slice A (m.l.length + 1) c)) :
    (∃ q', HR W B N q' ⟨m.l ++ [(v : Int)], m.pl.set v m.l.length, m.s⟩ ∧ q'.g = q.g ∧ ∀ i, mine q' i → mine q i ∨ w.heap.size ≤ i) ∧ Mod (mine q) w W := by
  have hlN := h.lenN
  have hN := h.hN
  have mA : Mod (fun j => j = q.p) w W0 := by rw [hW0]; exact ((Mod.setCell (S := fun j => j = q.p) (Mod.refl _ w) (p := ⟨q.p, v, none⟩) (.inl rfl) _).alloc _).drew
  have mB := Mod.grown hg
  have hiA : ∀ i, some i = (Value.slice q.iA m.l.length q.ic).ownBlock → q.iA = some ⟨i, 0, none⟩ := fun i e => by
    obtain ⟨_, ⟨e2, _⟩ | ⟨g, e2, _⟩⟩ := h.inn
    · rw [e2] at e; cases e
    · rw [e2] at e ⊢
      cases e; rfl
  have m1 : Mod (fun j => j = q.p ∨ q.iA = some ⟨j, 0, none⟩) w W1 := (mA.mono fun _ _ e => .inl e).trans mB fun i _ e => .inr (hiA i e)
  have m3 : Mod (fun j => j = q.g ∨ j = q.p ∨ q.iA = some ⟨j, 0, none⟩) w W := by
    rw [hW]
    exact (m1.mono fun j _ e => .inr e).setCell (.inl (.inl rfl)) _
  have m2 : Mod (mine q) w W := m3.mono fun j _ e => by
    rcases e with e | e | e
    · exact .inl e
    · exact .inr (.inl e)
    · exact .inr (.inr (.inr e))
  have hnew : ∀ i, A = some ⟨i, 0, none⟩ → q.iA = some ⟨i, 0, none⟩ ∨ w.heap.size ≤ i := fun i e => (hA i e).imp id fun e => by
    rw [e]; exact mA.size
  have hpw := h.plr.lt
  have hgw := h.blk.lt
  have hsw := h.scr.lt
  have hnp : ∀ i, A = some ⟨i, 0, none⟩ → i ≠ q.p ∧ i ≠ q.g := fun i e => by
    rcases hnew i e with e2 | e2
    · exact ⟨(h.gi e2).2.1, (h.gi e2).1⟩
    · omega
  have hle : (m.l ++ [(v : Int)]).length = m.l.length + 1 := by simp
  have hop : Pl N (m.l ++ [(v : Int)]) (m.pl.set v m.l.length) := by
    have h1 := h.ord.push (v := (v : Int)) ⟨by omega, by omega⟩ hn
    rw [Int.toNat_natCast] at h1
    exact h1
  refine ⟨⟨⟨q.g, A, c, q.p, q.pc, q.s, q.sc⟩, ⟨?_, ?_, ?_, ?_, hop, h.sl, fun i e => (hnp i e).1, h.bg, h.hN, ?_⟩, rfl, ?_⟩, m2⟩
  · have h1 := (h.blk.mod m1 (fun e => e.elim h.gp (fun e => (h.gi e).1 rfl))).set_ 0 (.slice A (m.l.length + 1) c)
    rw [hW]
    unfold hcells at h1 ⊢
    simp only [hle]
    exact h1
  · have h1 := hO.mod (Mod.setCell (S := fun j => j = q.g) (Mod.refl _ W1) (p := ⟨q.g, 0, none⟩) (.inl rfl) (.slice A (m.l.length + 1) c)) (fun i _ e => (hnp i e).2)
    rw [hW]
    show App.Own _ B _ A (m.l ++ [(v : Int)]).length c (LZ (m.l ++ [(v : Int)]))
    rw [hle]
    exact h1
  · have h1 := ((h.plr.set_ v (by rw [LZ_len, h.ord.len]; omega) (.int .i64 (m.l.length : Int))).alloc (.cells #[.int .i64 (v : Int)] 3))
    rw [LZ_set] at h1
    have h2 : Row W0 q.p 3 (LZ (m.pl.set v m.l.length)) q.pc := by rw [hW0]; exact h1
    have h3 := h2.mod mB (fun e => (h.gi (hiA _ e)).2.1 rfl)
    rw [hW]
    exact h3.far (p := ⟨q.g, 0, none⟩) (Ne.symm h.gp) _
  · exact h.scr.mod m3 (fun e => by
      rcases e with e | e | e
      · exact h.gs e.symm
      · exact h.ps e.symm
      · exact (h.gi e).2.2 rfl)
  · intro x hx
    rcases List.mem_or_eq_of_mem_set hx with hx | rfl
    · exact h.pb x hx
    · unfold inI; omega
  · intro i hi
    rcases hi with e | e | e | e
    · exact .inl (.inl e)
    · exact .inl (.inr (.inl e))
    · exact .inl (.inr (.inr (.inl e)))
    · exact (hnew i e).imp (fun e => .inr (.inr (.inr e))) id
set_option maxRecDepth 100000 in
theorem rpush_any {w : World} {B N : Nat} {q : HA} {m : HM} (h : HR w B N q m) (hB : B ≤ w.heap.size) (v : Nat) (hv : 1 ≤ v ∧ v ≤ N) (hn : (v : Int) ∉ m.l) :
    Calls Try.prog 94 #[.pointer (some ⟨q.g, 0, none⟩), .iface 3 (.int .i64 (v : Int))] w fun e w' => e = .returned (.tuple #[]) ∧ (∃ q' pl', HR w' B N q' ⟨m.l ++ [(v : Int)], pl', m.s⟩ ∧ q'.g = q.g ∧ ∀ i, mine q' i → mine q i ∨ w.heap.size ≤ i) ∧ Mod (mine q) w w' := by
  have c0 : w.cell? ⟨q.g, 0, none⟩ = some (.slice q.iA m.l.length q.ic) := h.blk.cell 0
  have c1 : w.cell? ⟨q.g, 1, none⟩ = some (.slice (some ⟨q.p, 0, none⟩) (N + 1) q.pc) := h.blk.cell 1
  have f0 := h.blk.frozen 0
  have px := h.pl_ (v := v) (by omega)
  have fx := h.plr.frozen v
  have hl := h.lenN
  have hN := h.hN
  have n4 := h.gp
  have H := Lib.hid h
  have HV := Lib.hid hv
  have HNI := Lib.hid hn
  have hv1 : (v : Int) < (N : Int) + 1 := by omega
  have hv2 : v < N + 1 := by omega
  have HBS := Lib.hid hB
  have HO := Lib.hid (show App.Own ((w.setCell ⟨q.p, v, none⟩ (.int .i64 (m.l.length : Int))).alloc (.cells #[.int .i64 (v : Int)] 3)).drew B 3 q.iA m.l.length q.ic (LZ m.l) from
    ((h.inn.mod (Mod.setCell (S := fun j => j = q.p) (Mod.refl _ w) (p := ⟨q.p, v, none⟩) (.inl rfl) (.int .i64 (m.l.length : Int))) (fun i _ e => fun e2 => by subst e2; exact (h.gi e).2.1 rfl)).alloc _).drewN 1)
  have HC := Lib.hid (show ((w.setCell ⟨q.p, v, none⟩ (.int .i64 (m.l.length : Int))).alloc (.cells #[.int .i64 (v : Int)] 3)).drew.cell? ⟨w.heap.size, 0, none⟩ = some (.int .i64 (v : Int)) from (show Blk _ w.heap.size 3 #[.int .i64 (v : Int)] by have := Blk.new (w.setCell ⟨q.p, v, none⟩ (.int .i64 (m.l.length : Int))) 3 #[.int .i64 (v : Int)]; simp only [World.size_setCell] at this; exact this.drew).cell 0)
  have HBS2 := Lib.hid (show B ≤ ((w.setCell ⟨q.p, v, none⟩ (.int .i64 (m.l.length : Int))).alloc (.cells #[.int .i64 (v : Int)] 3)).drew.heap.size from Nat.le_trans hB (((Mod.setCell (S := fun j => j = q.p) (Mod.refl _ w) (p := ⟨q.p, v, none⟩) (.inl rfl) (.int .i64 (m.l.length : Int))).alloc (.cells #[.int .i64 (v : Int)] 3)).drew).size)
  have HF := Lib.hid (fun W1 W A c (hO : App.Own W1 B 3 A (m.l.length + 1) c (LZ (m.l ++ [(v : Int)]))) (hg : ((w.setCell ⟨q.p, v, none⟩ (.int .i64 (m.l.length : Int))).alloc (.cells #[.int .i64 (v : Int)] 3)).drew.grownBy W1 (Value.slice q.iA m.l.length q.ic).ownBlock) hA (hW : W = W1.setCell ⟨q.g, 0, none⟩ (.slice A (m.l.length + 1) c)) => h.push (W := W) hv hn rfl hO hg hA hW)
  have HG := Lib.hid (fun W1 (hg : ((w.setCell ⟨q.p, v, none⟩ (.int .i64 (m.l.length : Int))).alloc (.cells #[.int .i64 (v : Int)] 3)).drew.grownBy W1 (Value.slice q.iA m.l.length q.ic).ownBlock) => (show W1.cell? ⟨q.g, 0, none⟩ = some (.slice q.iA m.l.length q.ic) ∧ W1.frozen? ⟨q.g, 0, none⟩ = false from by
    have m1 : Mod (fun j => j = q.p) w ((w.setCell ⟨q.p, v, none⟩ (.int .i64 (m.l.length : Int))).alloc (.cells #[.int .i64 (v : Int)] 3)).drew := ((Mod.setCell (S := fun j => j = q.p) (Mod.refl _ w) (p := ⟨q.p, v, none⟩) (.inl rfl) _).alloc _).drew
    have h1 := (h.blk.mod m1 h.gp).mod (Mod.grown hg) (fun e => by
      obtain ⟨_, ⟨e2, _⟩ | ⟨g, e2, _⟩⟩ := h.inn
      · rw [e2] at e; exact absurd (show some q.g = none from e) (by simp)
      · rw [e2] at e
        have e3 : q.g = g := Option.some.inj e
        rw [← e3] at e2
        exact (h.gi e2).1 rfl)
    exact ⟨h1.cell 0, h1.frozen 0⟩))
  clear h hn hB
  generalize hL : m.l.length = L at *
  have HL := Lib.hid hL
  clear hL
  generalize m.pl.getD v 0 = ox at *
  have hta : ∀ (w : World) (x : Int), (Instr.typeAssert (.iface 3 (.int .i64 x)) 20 3 false).run Try.prog w = .ok (.int .i64 x) w := fun w x => by kernel_rfl
  go_enter Try.func94, Try.ntmps94
  go_wp2_with fail
  refine wp_region_still_tail 11 (by kernel_rfl) (by kernel_rfl) ?_
  change wpStill _ _ w.drew _ _ _
  simp only [List.take_succ_cons, List.take_zero, List.drop_succ_cons, List.drop_zero]
  repeat still_step
  refine wpStill_nil ?_
  change wpList _ _ _ _ _ w.drew
  go_wp2_with (at_builtin; refine wpAppOne rfl _ _ rfl B q.iA L q.ic m.l rfl HO.out _ 1 (v : Int) rfl HC.out (by omega) HBS2.out ?_; intro A2 c2 w3 hO3 hg3 hA3; obtain ⟨k1, k2⟩ := HG.out _ hg3; have HF3 := Lib.hid (fun W => HF.out w3 W A2 c2 hO3 hg3 hA3); clear hO3 hg3 hA3)
  go_end0
  obtain ⟨⟨q', h1, h2, h3⟩, h4⟩ := HF3.out _ rfl
  exact ⟨rfl, ⟨q', _, h1, h2, h3⟩, h4⟩
end Go.Proofs.Ytienomdennbkpaa.He
