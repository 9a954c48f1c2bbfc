/- ArenaFinds: the words for its walk. Conditions: the memory. -/
import Derived.Test.YtenadnmglhghiaaAq
namespace Go.Proofs.Ytenadnmglhghiaa.Ar
open Go.RowKit Go.Proofs.Ytenadnmglhghiaa.Mem Go.Proofs.Ytenadnmglhghiaa.Sl Go.Shelf Go.Proofs.Ytenadnmglhghiaa.Cl
open Go.Proofs.Ytenadnmglhghiaa.FnL (enc_at below_then)
set_option linter.unusedVariables false

def IZ (l : List Int) : List Value := l.map (Value.int .i64)
theorem wpAppR {w : World} {ops : Array Oper} {rest : List Oper} {o : Oper} {a : Act} {Q : Exit → Act → World → Prop} (hgd : o.guard = none) (s x : Operand)
    (ho : o.op = .call { callee := .builtin .append, args := #[s, x], argTypes := #[30, 30] })
    (base : Nat) (A : Option Addr) (n c : Nat) (xs : List Int) (hs : a.eval s = .slice A n c) (hown : App.Own w base 32 A n c (IZ xs))
    (A2 : Option Addr) (m c2 : Nat) (news : List Int) (hx : a.eval x = .slice A2 m c2) (hl : m = news.length) (hr : RdV w A2 (IZ news)) (hnil : A2 = none → c2 = 0)
    (h63 : n + m ≤ 400000000) (hbase : base ≤ w.heap.size) (r : Nat) (hrr : n + m = r)
    (h : ∀ A' c' w', App.Own w' base 32 A' r c' (IZ (xs ++ news)) → Mod (fun i => A = some ⟨i, 0, none⟩) w w' → wpList Try.prog ops Q rest (a.put o.dst (.slice A' r c')) w') : wpList Try.prog ops Q (o :: rest) a w :=
  wpApp1 (Value.int .i64) (fun _ => rfl) 30 32 (.int .i64 0) 8 (by decide) Try.underlying30 (by kernel_rfl) (by kernel_rfl) rfl hgd s x ho base A n c xs hs hown A2 m c2 news hx hl hr hnil h63 hbase r hrr h
theorem wpAppI {w : World} {ops : Array Oper} {rest : List Oper} {o : Oper} {a : Act} {Q : Exit → Act → World → Prop} (hgd : o.guard = none) (s x : Operand)
    (ho : o.op = .call { callee := .builtin .append, args := #[s, x], argTypes := #[31, 31] })
    (base : Nat) (A : Option Addr) (n c : Nat) (xs : List Int) (hs : a.eval s = .slice A n c) (hown : App.Own w base 3 A n c (IZ xs))
    (A2 : Option Addr) (m c2 : Nat) (news : List Int) (hx : a.eval x = .slice A2 m c2) (hl : m = news.length) (hr : RdV w A2 (IZ news)) (hnil : A2 = none → c2 = 0)
    (h63 : n + m ≤ 400000000) (hbase : base ≤ w.heap.size) (r : Nat) (hrr : n + m = r)
    (h : ∀ A' c' w', App.Own w' base 3 A' r c' (IZ (xs ++ news)) → Mod (fun i => A = some ⟨i, 0, none⟩) w w' → wpList Try.prog ops Q rest (a.put o.dst (.slice A' r c')) w') : wpList Try.prog ops Q (o :: rest) a w :=
  wpApp1 (Value.int .i64) (fun _ => rfl) 31 3 (.int .i64 0) 8 (by decide) Try.underlying31 (by kernel_rfl) (by kernel_rfl) rfl hgd s x ho base A n c xs hs hown A2 m c2 news hx hl hr hnil h63 hbase r hrr h
section
variable {w : World} {base : Nat} {q : AAd} {lim : Int} {its : List Itm}
theorem AR.sep_own (h : AR w base q lim its) {b2 : Nat} {t : TypeId} {A : Option Addr} {n c : Nat} {xs : List Value} (ho : App.Own w b2 t A n c xs) (h1 : t ≠ 69) (h2 : t ≠ 71) {i : Nat} (e : A = some ⟨i, 0, none⟩) : ¬ mq q i := by
  rintro (rfl | rfl | e2)
  · exact Own.ne_blk ho h.blk h1 e rfl
  · exact Own.ne_map ho h.mp e rfl
  · obtain ⟨_, ⟨e3, _⟩ | ⟨a, e3, _, _, ⟨_, hk, _⟩⟩⟩ := h.row
    · rw [e3] at e2; cases e2
    · rw [e3] at e2; injection e2 with e2; injection e2 with e2
      exact Own.ne_blk ho hk h2 e e2.symm
theorem AR.sep_srow (h : AR w base q lim its) {b2 s : Nat} {t : TypeId} {A : Option Addr} {n c : Nat} {xs : List Value} (ho : SRow w b2 t s A n c xs) (h1 : t ≠ 69) (h2 : t ≠ 71) {i : Nat} (e : A = some ⟨i, 0, none⟩) : ¬ mq q i := by
  rintro (rfl | rfl | e2)
  · exact SRow.ne_blk ho h.blk h1 e rfl
  · exact SRow.ne_map ho h.mp e rfl
  · obtain ⟨_, ⟨e3, _⟩ | ⟨a, e3, _, _, ⟨_, hk, _⟩⟩⟩ := h.row
    · rw [e3] at e2; cases e2
    · rw [e3] at e2; injection e2 with e2; injection e2 with e2
      exact SRow.ne_blk ho hk h2 e e2.symm
/-- What turns no block of the arena's leaves it. -/
theorem AR.keeps (h : AR w base q lim its) {w' : World} {S : Nat → Prop} (hm : Mod S w w') (hS : ∀ i, S i → ¬ mq q i) : AR w' base q lim its :=
  h.mod hm (fun e => hS _ e (.inl rfl)) (fun e => hS _ e (.inr (.inl rfl))) (fun i _ e e2 => hS _ e2 (.inr (.inr e)))
end
theorem Own.ne_own {w : World} {base base' n c n' c' : Nat} {t t' : TypeId} {A A' : Option Addr} {xs xs' : List Value} (h : App.Own w base t A n c xs) (h' : App.Own w base' t' A' n' c' xs') (hne : t ≠ t') {i : Nat} (e : A = some ⟨i, 0, none⟩) (e' : A' = some ⟨i, 0, none⟩) : False := by
  obtain ⟨_, ⟨rfl, _⟩ | ⟨a, rfl, _, _, ⟨_, hk, _⟩⟩⟩ := h'
  · cases e'
  · obtain rfl : a = i := by injection e' with e'; injection e'
    exact Own.ne_blk h hk hne e rfl
/-- Where ArenaFinds stands. -/
structure FS (w wr : World) (ls : List (List Int)) (g k : Nat) (its : List Itm) (q : AAd) (RA : Option Addr) (rc : Nat) (DA : Option Addr) (dc : Nat) (ids : List Nat) : Prop where
  ar : AR wr w.heap.size q 268435456 its
  g : q.g = g
  fi : FI ls its ids
  nl : ids.length ≤ k
  sw : sumw its ≤ k * 1048580
  ro : App.Own wr w.heap.size 32 RA ids.length rc (IZ (NZ (refs its)))
  dn : App.Own wr w.heap.size 3 DA ids.length dc (IZ (NZ ids))
  b : Below w.heap.size w wr
theorem FS.below {w wr w' : World} {ls : List (List Int)} {g k : Nat} {its : List Itm} {q : AAd} {RA : Option Addr} {rc : Nat} {DA : Option Addr} {dc : Nat} {ids : List Nat} (h : FS w wr ls g k its q RA rc DA dc ids) (hb : Below wr.heap.size wr w') : FS w w' ls g k its q RA rc DA dc ids :=
  ⟨h.ar.below hb, h.g, h.fi, h.nl, h.sw, h.ro.below hb, h.dn.below hb, below_then h.b hb h.b.size⟩
theorem FS.ro3 {w wr w3 : World} {ls : List (List Int)} {g k : Nat} {its : List Itm} {q : AAd} {RA : Option Addr} {rc : Nat} {DA : Option Addr} {dc : Nat} {ids : List Nat} (h : FS w wr ls g k its q RA rc DA dc ids) (hm : Mod (mq q) wr w3) : App.Own w3 w.heap.size 32 RA ids.length rc (IZ (NZ (refs its))) :=
  h.ro.mod hm (fun i _ e => h.ar.sep_own h.ro (by decide) (by decide) e)
theorem FS.dn3 {w wr w3 : World} {ls : List (List Int)} {g k : Nat} {its : List Itm} {q : AAd} {RA : Option Addr} {rc : Nat} {DA : Option Addr} {dc : Nat} {ids : List Nat} (h : FS w wr ls g k its q RA rc DA dc ids) (hm : Mod (mq q) wr w3) : App.Own w3 w.heap.size 3 DA ids.length dc (IZ (NZ ids)) :=
  h.dn.mod hm (fun i _ e => h.ar.sep_own h.dn (by decide) (by decide) e)
theorem FS.dn4 {w wr w3 w4 : World} {ls : List (List Int)} {g k : Nat} {its : List Itm} {q : AAd} {RA : Option Addr} {rc : Nat} {DA : Option Addr} {dc : Nat} {ids : List Nat} {o : Obj} (h : FS w wr ls g k its q RA rc DA dc ids) (hm : Mod (mq q) wr w3) (hm4 : Mod (fun i => RA = some ⟨i, 0, none⟩) (w3.alloc o) w4) : App.Own w4 w.heap.size 3 DA ids.length dc (IZ (NZ ids)) :=
  ((h.dn3 hm).alloc o).mod hm4 (fun i _ e e2 => Own.ne_own ((h.dn3 hm).alloc o) ((h.ro3 hm).alloc o) (by decide) e e2)
theorem Own.drop_rd {w : World} {base n c b : Nat} {t : TypeId} {xs : List Int} (h : App.Own w base t (some ⟨b, 0, none⟩) n c (IZ xs)) (j : Nat) : RdV w (some ⟨b, j, none⟩) (IZ (xs.drop j)) := fun hp => by
  obtain ⟨_, ⟨e, _⟩ | ⟨a, e, _, _, hr⟩⟩ := h
  · cases e
  · injection e with e; injection e with e
    subst e
    refine ⟨b, j, rfl, hr.lt, fun i v hi => hr.cell ?_⟩
    unfold IZ at hi ⊢
    rw [List.map_drop, List.getElem?_drop] at hi
    exact hi
theorem FI.rl {ls : List (List Int)} {its : List Itm} {ids : List Nat} (h : FI ls its ids) : (refs its).length = ids.length := by rw [← lv_len, h.1]
theorem NZ_len (l : List Nat) : (NZ l).length = l.length := by simp [NZ]
theorem NZ_snoc (l : List Nat) (v : Nat) : NZ l ++ [(v : Int)] = NZ (l ++ [v]) := by unfold NZ; rw [List.map_append]; rfl
/-- A clause is put, its place and number are written down. -/
theorem FS.put {w wr w3 w4 w5 : World} {ls : List (List Int)} {g k : Nat} {its : List Itm} {q : AAd} {RA : Option Addr} {rc : Nat} {DA : Option Addr} {dc : Nat} {ids : List Nat} (h : FS w wr ls g k its q RA rc DA dc ids) (hkl : k < ls.length) (hlen : (ls[k]).length ≤ 1048576) {x : Itm} (hx : x.wd = 4 + (ls[k]).length ∧ x.dead = false ∧ IsC ls x k)
    {q2 : AAd} (hg : q2.g = q.g) (ha : AR w3 w.heap.size q2 268435456 (its ++ [x])) (hm : Mod (mq q) wr w3) {o o2 : Obj} {RA2 : Option Addr} {rc2 : Nat} {DA2 : Option Addr} {dc2 : Nat}
    (hr : App.Own w4 w.heap.size 32 RA2 (ids.length + 1) rc2 (IZ (NZ (refs its) ++ [((sumw its : Nat) : Int)]))) (hm4 : Mod (fun i => RA = some ⟨i, 0, none⟩) (w3.alloc o) w4)
    (hd : App.Own w5 w.heap.size 3 DA2 (ids.length + 1) dc2 (IZ (NZ ids ++ [(k : Int)]))) (hm5 : Mod (fun i => DA = some ⟨i, 0, none⟩) (w4.alloc o2) w5) : FS w w5 ls g (k + 1) (its ++ [x]) q2 RA2 rc2 DA2 dc2 (ids ++ [k]) := by
  have hro3 := h.ro.mod hm (fun i _ e => h.ar.sep_own h.ro (by decide) (by decide) e)
  have hdn3 := h.dn.mod hm (fun i _ e => h.ar.sep_own h.dn (by decide) (by decide) e)
  have ha4 := (ha.below ((Below.refl _ w3).alloc (Nat.le_refl _) o)).keeps hm4 (fun i e => AR.sep_own (ha.below ((Below.refl _ w3).alloc (Nat.le_refl _) o)) (hro3.alloc o) (by decide) (by decide) e)
  have hdn4 := (hdn3.alloc o).mod hm4 (fun i _ e e2 => Own.ne_own (hdn3.alloc o) (hro3.alloc o) (by decide) e e2)
  have ha5 := (ha4.below ((Below.refl _ w4).alloc (Nat.le_refl _) o2)).keeps hm5 (fun i e => AR.sep_own (ha4.below ((Below.refl _ w4).alloc (Nat.le_refl _) o2)) (hdn4.alloc o2) (by decide) (by decide) e)
  have hr5 := (hr.alloc o2).mod hm5 (fun i _ e e2 => Own.ne_own (hr.alloc o2) (hdn4.alloc o2) (by decide) e e2)
  have hB3 : Below w.heap.size w w3 := h.ar.then_ h.b h.b.size hm (Nat.le_refl _)
  have hB4 : Below w.heap.size w w4 := hB3.trans (below_alloc_mod hB3.size (Own.base_le hro3) hm4)
  have hB5 : Below w.heap.size w w5 := hB4.trans (below_alloc_mod hB4.size (Own.base_le hdn4) hm5)
  have hln : (ids ++ [k]).length = ids.length + 1 := by simp
  refine ⟨ha5, hg.trans h.g, h.fi.put hx.2.1 hx.2.2, by rw [hln]; have := h.nl; omega, ?_, ?_, ?_, hB5⟩
  · rw [sumw_append, sumw_one, hx.1]; have := h.sw; omega
  · rw [hln, refs_snoc, hx.2.1]
    show App.Own w5 _ _ _ _ _ (IZ (NZ (refs its ++ [sumw its])))
    rw [← NZ_snoc]
    exact hr5
  · rw [hln, ← NZ_snoc]
    exact hd
theorem NZ_erase (l : List Nat) (i : Nat) : NZ (l.eraseIdx i) = (NZ l).take i ++ (NZ l).drop (i + 1) := by
  unfold NZ
  rw [List.eraseIdx_eq_take_drop_succ, List.map_append, List.map_take, List.map_drop]
theorem refs_lv {its : List Itm} {k : Nat} (h : k < (lv its).length) : (lv its)[k].1 = (refs its)[k]'(by rw [← lv_len]; exact h) := by
  have e := lv_refs its
  have : ((lv its).map Prod.fst)[k]'(by rw [List.length_map]; exact h) = (refs its)[k]'(by rw [← lv_len]; exact h) := by simp only [e]
  rw [List.getElem_map] at this
  exact this
/-- One is killed; its place and number are struck off. -/
theorem FS.kill {w wr w3 w' : World} {ls : List (List Int)} {g k : Nat} {its : List Itm} {q : AAd} {RA : Option Addr} {rc : Nat} {DA : Option Addr} {dc : Nat} {ids : List Nat} (h : FS w wr ls g k its q RA rc DA dc ids) {j : Nat} (hj : j < (lv its).length)
    (ha : AR w3 w.heap.size q 268435456 (killM its ((lv its)[j].1 : Int)).2) (hm : Mod (mq q) wr w3) (hb : Below w3.heap.size w3 w') {RA2 : Option Addr} {rc2 : Nat} {DA2 : Option Addr} {dc2 : Nat}
    (hr : App.Own w' w3.heap.size 32 RA2 (ids.length - 1) rc2 (IZ ((NZ (refs its)).take j ++ (NZ (refs its)).drop (j + 1)))) (hd : App.Own w' w3.heap.size 3 DA2 (ids.length - 1) dc2 (IZ ((NZ ids).take j ++ (NZ ids).drop (j + 1)))) :
    FS w w' ls g k (killM its ((lv its)[j].1 : Int)).2 q RA2 rc2 DA2 dc2 (ids.eraseIdx j) := by
  obtain ⟨_, e1, e2⟩ := lv_kill h.ar.ok hj
  have hB3 : Below w.heap.size w w3 := h.ar.then_ h.b h.b.size hm (Nat.le_refl _)
  have hjl : j < ids.length := by rw [h.fi.1]; exact hj
  have hln : (ids.eraseIdx j).length = ids.length - 1 := by rw [List.length_eraseIdx, if_pos hjl]
  have hrf : refs (killM its ((lv its)[j].1 : Int)).2 = (refs its).eraseIdx j := by
    rw [← lv_refs, e1, ← lv_refs, List.eraseIdx_eq_take_drop_succ, List.eraseIdx_eq_take_drop_succ, List.map_append, List.map_take, List.map_drop]
  refine ⟨ha.below hb, h.g, h.fi.kill h.ar.ok hj, by rw [hln]; have := h.nl; omega, by rw [e2]; exact h.sw, ?_, ?_, below_then hB3 hb hB3.size⟩
  · rw [hln, hrf, NZ_erase]; exact hr.low hB3.size
  · rw [hln, NZ_erase]; exact hd.low hB3.size
/-- The places are being turned. -/
structure CL (w wr : World) (its : List Itm) (q : AAd) (MA : Option Addr) (mc : Nat) (RA : Option Addr) (rc : Nat) (DA : Option Addr) (dc : Nat) (ids : List Nat) (k : Nat) : Prop where
  ar : AR wr w.heap.size q 268435456 (keep its)
  mv : SRow wr w.heap.size 42 2 MA ids.length mc (mvC (refs its) (refs (keep its)))
  ro : App.Own wr w.heap.size 32 RA ids.length rc (IZ (NZ ((refs (keep its)).take k ++ (refs its).drop k)))
  dn : App.Own wr w.heap.size 3 DA ids.length dc (IZ (NZ ids))
  b : Below w.heap.size w wr
theorem CL.below {w wr w' : World} {its : List Itm} {q : AAd} {MA : Option Addr} {mc : Nat} {RA : Option Addr} {rc : Nat} {DA : Option Addr} {dc : Nat} {ids : List Nat} {k : Nat} (h : CL w wr its q MA mc RA rc DA dc ids k) (hb : Below wr.heap.size wr w') : CL w w' its q MA mc RA rc DA dc ids k :=
  ⟨h.ar.below hb, h.mv.mod (Mod.none_ hb (fun _ => False)) (fun _ _ => id), h.ro.below hb, h.dn.below hb, below_then h.b hb h.b.size⟩
theorem CL.store {w wr : World} {its : List Itm} {q : AAd} {MA : Option Addr} {mc a rc : Nat} {DA : Option Addr} {dc : Nat} {ids : List Nat} {k : Nat} (h : CL w wr its q MA mc (some ⟨a, 0, none⟩) rc DA dc ids k) (hk : k < ids.length) (h1 : k < (refs (keep its)).length) (h2 : k < (refs its).length) :
    CL w (wr.setCell ⟨a, k, none⟩ (.int .i64 ((refs (keep its))[k] : Nat))) its q MA mc (some ⟨a, 0, none⟩) rc DA dc ids (k + 1) := by
  have hm : Mod (fun i => i = a) wr (wr.setCell ⟨a, k, none⟩ (.int .i64 ((refs (keep its))[k] : Nat))) := Mod.setCell (S := fun i => i = a) (Mod.refl _ _) (p := ⟨a, k, none⟩) (.inl rfl) _
  refine ⟨h.ar.keeps hm (fun i e => by rw [e]; exact h.ar.sep_own h.ro (by decide) (by decide) rfl), h.mv.mod hm (fun i e e2 => ?_), ?_, h.dn.mod hm (fun i _ e e2 => Own.ne_own h.dn h.ro (by decide) e (by rw [e2])), h.b.setCell (p := ⟨a, k, none⟩) (Own.base_le h.ro a rfl) _⟩
  · obtain ⟨_, ⟨e3, _⟩ | ⟨a', e3, _, _, ⟨_, hk', _⟩⟩⟩ := h.ro
    · cases e3
    · injection e3 with e3; injection e3 with e3
      subst e3
      exact SRow.ne_blk h.mv hk' (by decide) e e2
  · have := App.Own.set_ h.ro k hk (.int .i64 ((refs (keep its))[k] : Nat))
    have e : (IZ (NZ ((refs (keep its)).take k ++ (refs its).drop k))).set k (.int .i64 ((refs (keep its))[k] : Nat)) = IZ (NZ ((refs (keep its)).take (k + 1) ++ (refs its).drop (k + 1))) := by
      unfold IZ NZ
      rw [← List.map_set, ← List.map_set (f := fun (r : Nat) => (r : Int)) (a := (refs (keep its))[k])]
      congr 2
      have hl : ((refs (keep its)).take k).length = k := by rw [List.length_take]; omega
      rw [List.set_append_right k _ (by omega), hl, Nat.sub_self, List.take_succ_eq_append_getElem h1, List.drop_eq_getElem_cons h2, List.set_cons_zero, List.append_assoc]
      rfl
    rw [e] at this
    exact this
theorem CL.done {w wr w' : World} {ls : List (List Int)} {g k : Nat} {its : List Itm} {q q3 : AAd} {RA : Option Addr} {rc : Nat} {DA : Option Addr} {dc : Nat} {MA : Option Addr} {mc : Nat} {ids : List Nat} (h : FS w wr ls g k its q RA rc DA dc ids) (hg : q3.g = q.g) (hc : CL w w' its q3 MA mc RA rc DA dc ids ids.length) :
    FS w w' ls g k (keep its) q3 RA rc DA dc ids := by
  have hl : (refs (keep its)).length = ids.length := by rw [(h.fi.keep).rl]
  refine ⟨hc.ar, hg.trans h.g, h.fi.keep, h.nl, Nat.le_trans (keep_sumw h.ar.ok) h.sw, ?_, hc.dn, hc.b⟩
  have := hc.ro
  rwa [List.take_of_length_le (by omega), List.drop_eq_nil_of_le (by rw [h.fi.rl]; exact Nat.le_refl _), List.append_nil] at this
theorem CL.start {w wr w3 : World} {ls : List (List Int)} {g k : Nat} {its : List Itm} {q q3 : AAd} {RA : Option Addr} {rc : Nat} {DA : Option Addr} {dc : Nat} {MA : Option Addr} {mc : Nat} {ids : List Nat} (h : FS w wr ls g k its q RA rc DA dc ids)
    (ha : AR w3 w.heap.size q3 268435456 (keep its)) (hm : Mod (mq q) wr w3) (hmv : SRow w3 wr.heap.size 42 2 MA (refs its).length mc (mvC (refs its) (refs (keep its)))) : CL w w3 its q3 MA mc RA rc DA dc ids 0 := by
  have hB3 : Below w.heap.size w w3 := h.ar.then_ h.b h.b.size hm (Nat.le_refl _)
  rw [h.fi.rl] at hmv
  exact ⟨ha, hmv.low h.b.size, by rw [List.take_zero, List.nil_append, List.drop_zero]; exact h.ro.mod hm (fun i _ e => h.ar.sep_own h.ro (by decide) (by decide) e), h.dn.mod hm (fun i _ e => h.ar.sep_own h.dn (by decide) (by decide) e), hB3⟩
end Go.Proofs.Ytenadnmglhghiaa.Ar
