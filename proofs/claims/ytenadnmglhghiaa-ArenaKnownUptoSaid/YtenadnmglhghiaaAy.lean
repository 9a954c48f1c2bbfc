/- The document's arena: appends to its row of items; what Put leaves. Conditions: the memory. -/
import Derived.Test.YtenadnmglhghiaaAx
import Derived.Deep.AppendLies
namespace Go.Proofs.Ytenadnmglhghiaa.Ar
open Go.RowKit Go.Proofs.Ytenadnmglhghiaa.Mem Go.Proofs.Ytenadnmglhghiaa.Sl Go.Shelf
open Go.Proofs.Ytenadnmglhghiaa.FnL (enc_at below_then)
set_option linter.unusedVariables false

theorem one_cellsD (o : Nat) (p : Itm × LAd) : ∀ u ∈ cellsD o p, u.oneCell' = true := fun u hu => by
  unfold cellsD at hu
  simp only [List.mem_cons, List.not_mem_nil, or_false] at hu
  rcases hu with rfl | rfl | rfl | rfl | rfl | rfl | rfl | rfl <;> rfl
theorem stepAppD {w : World} {ops : Array Oper} {o : Oper} {a : Act} {K : Act → World → Prop} {Q : Exit → Act → World → Prop} {E : Prop} (hgd : o.guard = none) (s x : Operand)
    (ho : o.op = .call { callee := .builtin .append, args := #[s, x], argTypes := #[76, 76] })
    (base : Nat) (A : Option Addr) (n c : Nat) (cells : List Value) (hs : a.eval s = .slice A n c) (hown : IRow w base A n c cells)
    (g1 : Nat) (of : Nat) (p : Itm × LAd) (hx : a.eval x = .slice (some ⟨g1, 0, none⟩) 1 1) (hb : Blk w g1 92 (cellsD of p).toArray)
    (h63 : n ≤ 400000000) (hbase : base ≤ w.heap.size) (H : Nat) (hH : w.heap.size = H)
    (h : ∀ g c' w', IRow w' base (some ⟨g, 0, none⟩) (n + 1) c' (cells ++ cellsD of p) → Mem.Mod (fun i => A = some ⟨i, 0, none⟩) w w' → (A = some ⟨g, 0, none⟩ ∨ g = H) → K (a.put o.dst (.slice (some ⟨g, 0, none⟩) (n + 1) c')) w') :
    if Region.wanted o (yielded ops a.tmps) = true then Oper.wp Try.prog o a w K Q else E := by
  obtain ⟨i0, hi⟩ := Option.isSome_iff_exists.1 (show (Try.prog.info? 92).isSome = true by kernel_rfl)
  have hz : (Try.prog.info? 92).map (fun i => (i.zero, i.size, i.bytes)) = some (some (.agg #[.int .i64 0, .int .i64 0, .int .i64 0, .slice none 0 0, .bool false, .int .i64 0, .int .i64 0, .bool false]), 8, 80) := by kernel_rfl
  rw [hi] at hz
  injection hz with hz
  injection hz with hz0 hz
  injection hz with hz1 hz2
  have own_is : ∀ i, (Value.slice A n c).ownBlock = some i → A = some ⟨i, 0, none⟩ := fun i e => by
    obtain ⟨_, ⟨rfl, _⟩ | ⟨g, rfl, _⟩⟩ := hown
    · cases e
    · have e : g = i := Option.some.inj e
      rw [e]
  refine step_append_lies w hgd s x 76 ho base 92 i0 (.agg #[.int .i64 0, .int .i64 0, .int .i64 0, .slice none 0 0, .bool false, .int .i64 0, .int .i64 0, .bool false]) 8 80 Try.underlying76 hi hz0 hz1 hz2 rfl (by decide) (.slice A n c) n cells hs hown.own ⟨g1, 0, none⟩ 1 1 (cellsD of p) hx rfl (fun j u hj => ?_) (one_cellsD of p) (by decide) (by unfold maxLen; omega) (by omega) hbase H hH (fun g cap w' h1 h2 h3 h4 => ?_)
  · exact World.news_of_block hb j u hj
  · obtain ⟨A', c', e', hO⟩ := IRow.of h1
    cases e'
    exact h g cap w' hO ((Mod.grown h2).mono fun i _ e => own_is i e.symm) (by
      rcases h3 with h3 | h3
      · exact .inl (own_is g h3)
      · exact .inr h3)
theorem wpAppD {w : World} {ops : Array Oper} {rest : List Oper} {o : Oper} {a : Act} {Q : Exit → Act → World → Prop} (hgd : o.guard = none) (s x : Operand)
    (ho : o.op = .call { callee := .builtin .append, args := #[s, x], argTypes := #[76, 76] })
    (base : Nat) (A : Option Addr) (n c : Nat) (cells : List Value) (hs : a.eval s = .slice A n c) (hown : IRow w base A n c cells)
    (b off : Nat) (c2 : Nat) (of : Nat) (p : Itm × LAd) (hx : a.eval x = .slice (some ⟨b, off, none⟩) 1 c2) (hr : RdV w (some ⟨b, off, none⟩) (cellsD of p))
    (h63 : n + 1 ≤ 400000000) (hbase : base ≤ w.heap.size)
    (h : ∀ A' c' w', IRow w' base A' (n + 1) c' (cells ++ cellsD of p) → Mod (fun i => A = some ⟨i, 0, none⟩) w w' → (∀ i, A' = some ⟨i, 0, none⟩ → A = some ⟨i, 0, none⟩ ∨ i = w.heap.size) → wpList Try.prog ops Q rest (a.put o.dst (.slice A' (n + 1) c')) w') : wpList Try.prog ops Q (o :: rest) a w := by
  obtain ⟨i0, hi⟩ := Option.isSome_iff_exists.1 (show (Try.prog.info? 92).isSome = true by kernel_rfl)
  have hz : (Try.prog.info? 92).map (fun i => (i.zero, i.size, i.bytes)) = some (some (.agg #[.int .i64 0, .int .i64 0, .int .i64 0, .slice none 0 0, .bool false, .int .i64 0, .int .i64 0, .bool false]), 8, 80) := by kernel_rfl
  rw [hi] at hz
  injection hz with hz
  injection hz with hz0 hz
  injection hz with hz1 hz2
  have own_is : ∀ i, (Value.slice A n c).ownBlock = some i → A = some ⟨i, 0, none⟩ := fun i e => by
    obtain ⟨_, ⟨rfl, _⟩ | ⟨g, rfl, _⟩⟩ := hown
    · cases e
    · have e : g = i := Option.some.inj e
      rw [e]
  refine wpList_append_own_at w hgd s x 76 ho base 92 i0 (.agg #[.int .i64 0, .int .i64 0, .int .i64 0, .slice none 0 0, .bool false, .int .i64 0, .int .i64 0, .bool false]) 8 80 Try.underlying76 hi hz0 hz1 hz2 rfl (by decide) (.slice A n c) n cells hs hown.own ⟨b, off, none⟩ 1 c2 (cellsD of p) hx rfl (fun j u hj => ?_) (one_cellsD of p) (by unfold maxLen; omega) (by omega) hbase (fun v' w' h1 h2 _ h3 => ?_)
  · obtain ⟨b', off', e', _, hc'⟩ := RdV.at_ hr hj
    cases e'
    rw [Go.WideShapes.add_plain]
    exact hc'
  · obtain ⟨A', c', rfl, hO⟩ := IRow.of h1
    refine h A' c' w' hO ((Mod.grown h2).mono fun i _ e => own_is i e.symm) (fun i e => ?_)
    subst e
    rcases h3 with e | e
    · exact .inl (own_is i (e.symm.trans rfl))
    · exact .inr (by simpa [Value.ownBlock] using e)
section
variable {w : World} {base gd c : Nat} {S : Nat → Prop} {A : Option Addr} {lim : Int} {z : List (Itm × LAd)}
theorem RA.ne_lits (h : RA w base S gd A c lim z) {A2 : Option Addr} {n2 c2 b2 : Nat} {xs : List Value} (hq : App.Own w b2 26 A2 n2 c2 xs) : ∀ i, A = some ⟨i, 0, none⟩ → A2 = some ⟨i, 0, none⟩ → False := fun i e e2 => by
  obtain ⟨_, ⟨e3, _⟩ | ⟨a, e3, _, _, _, hb⟩⟩ := h.row
  · rw [e3] at e; cases e
  · obtain rfl : a = i := by rw [e3] at e; injection e with e; injection e
    obtain ⟨_, hb, _⟩ := hb
    exact Own.ne_blk hq hb (by decide) e2 rfl
/-- What Put leaves: its item appended. -/
theorem rput_fin {W : World} (h : RA w base S gd A c lim z) (hbw : base ≤ w.heap.size) (hb : Below w.heap.size w W) (p : Itm × LAd) (hok : IOk p.1) (hl : App.Own W w.heap.size 26 p.2.A p.1.l.length p.2.c (LI p.1.l)) (hw : (sumw (itm z) + p.1.wd : Int) ≤ lim)
    (gA c' : Nat) (w2 : World) (hO : IRow w2 base (some ⟨gA, 0, none⟩) (z.length + 1) c' (rowsD 0 z ++ cellsD (sumw (itm z)) p))
    (hM : Mem.Mod (fun i => A = some ⟨i, 0, none⟩) ((W.alloc (.cells (cellsD (sumw (itm z)) p).toArray 92)).drew) w2) (hA : A = some ⟨gA, 0, none⟩ ∨ gA = W.heap.size + 1) :
    w2.cell? ⟨gd, 1, none⟩ = some (.slice A z.length c) ∧ w2.frozen? ⟨gd, 1, none⟩ = false ∧
    (∀ v, (w2.setCell ⟨gd, 1, none⟩ v).cell? ⟨gd, 2, none⟩ = some (.int .i64 (sumw (itm z) : Nat)) ∧ (w2.setCell ⟨gd, 1, none⟩ v).frozen? ⟨gd, 2, none⟩ = false) ∧
    RN w ((w2.setCell ⟨gd, 1, none⟩ (.slice (some ⟨gA, 0, none⟩) (z.length + 1) c')).setCell ⟨gd, 2, none⟩ (.int .i64 ((sumw (itm z) + p.1.wd : Nat) : Int))) base S gd lim (itm z ++ [p.1]) := by
  have HBA : Below W.heap.size W (W.alloc (.cells (cellsD (sumw (itm z)) p).toArray 92)).drew := (((Below.refl _ W).alloc (Nat.le_refl _) _).drew)
  have HB2 : Below w.heap.size w (W.alloc (.cells (cellsD (sumw (itm z)) p).toArray 92)).drew := (hb.alloc hb.size _).drew
  have h2 := h.below HB2
  have hb2 := h2.blk.mod hM (fun e => h2.row.ne_blk h2.blk (by decide) e rfl)
  have hnA : gA ≠ gd := hO.ne_blk hb2 (by decide) rfl
  have hsz : (W.alloc (.cells (cellsD (sumw (itm z)) p).toArray 92)).drew.heap.size = W.heap.size + 1 := by show (W.alloc _).heap.size = _; simp
  have hm3 : Mem.Mod (fun i => i = gd) w2 ((w2.setCell ⟨gd, 1, none⟩ (.slice (some ⟨gA, 0, none⟩) (z.length + 1) c')).setCell ⟨gd, 2, none⟩ (.int .i64 ((sumw (itm z) + p.1.wd : Nat) : Int))) :=
    Mem.Mod.setCell (Mem.Mod.setCell (Mem.Mod.refl (fun i => i = gd) _) (p := ⟨gd, 1, none⟩) (.inl rfl) _) (p := ⟨gd, 2, none⟩) (.inl rfl) _
  have hlit : ∀ q : Itm × LAd, ∀ b, App.Own (W.alloc (.cells (cellsD (sumw (itm z)) p).toArray 92)).drew b 26 q.2.A q.1.l.length q.2.c (LI q.1.l) → App.Own ((w2.setCell ⟨gd, 1, none⟩ (.slice (some ⟨gA, 0, none⟩) (z.length + 1) c')).setCell ⟨gd, 2, none⟩ (.int .i64 ((sumw (itm z) + p.1.wd : Nat) : Int))) b 26 q.2.A q.1.l.length q.2.c (LI q.1.l) := fun q b hq => by
    have h5 := hq.mod hM (fun i _ e e2 => h2.ne_lits hq i e2 e)
    exact h5.mod hm3 (fun i _ e e2 => Own.ne_blk h5 hb2 (by decide) e e2)
  have hlen : (z ++ [p]).length = z.length + 1 := by simp
  have hitm : itm (z ++ [p]) = itm z ++ [p.1] := by simp [itm]
  have hsw : sumw (itm (z ++ [p])) = sumw (itm z) + p.1.wd := by rw [hitm, sumw_append, sumw_one]
  have hnS : ∀ i, newS S w W i → newS S w ((w2.setCell ⟨gd, 1, none⟩ (.slice (some ⟨gA, 0, none⟩) (z.length + 1) c')).setCell ⟨gd, 2, none⟩ (.int .i64 ((sumw (itm z) + p.1.wd : Nat) : Int))) i := fun i hi => hi.elim .inl fun hi => .inr ⟨hi.1, Nat.lt_of_lt_of_le hi.2 (Nat.le_trans HBA.size (Nat.le_trans hM.size hm3.size))⟩
  refine ⟨hb2.cell 1, hb2.frozen 1, fun v => ⟨(hb2.set_ 1 v).cell 2, (hb2.set_ 1 v).frozen 2⟩, ⟨some ⟨gA, 0, none⟩, c', z ++ [p], hitm, ?_⟩, ?_⟩
  rotate_left
  · exact (Mod.none_ HB2 S).then_ ((hM.mono fun i _ e => h.fa i e).then_ (hm3.mono fun i _ e => by rw [e]; exact h.fg))
  refine ⟨?_, ?_, fun q hq => ?_, fun x hx => ?_, h.l0, by rw [hsw]; push_cast; exact hw, .inl h.fg, fun i e => ?_, fun q hq i e => ?_, fun i hi => hi.elim (h.lo i) (fun hi => Nat.le_trans hbw hi.1), fun i hi => hi.elim (fun hi => Nat.lt_of_lt_of_le (h.lt i hi) (Nat.le_trans HB2.size (Nat.le_trans hM.size hm3.size))) (fun hi => hi.2)⟩
  · rw [hlen, hsw]
    have := (hb2.set_ 1 (.slice (some ⟨gA, 0, none⟩) (z.length + 1) c')).set_ 2 (.int .i64 ((sumw (itm z) + p.1.wd : Nat) : Int))
    simpa using this
  · rw [hlen, rowsD_append, Nat.zero_add, show rowsD (sumw (itm z)) [p] = cellsD (sumw (itm z)) p from by simp [rowsD]]
    exact hO.mod hm3 (fun i e e2 => hnA (by injection e with e; injection e with e; rw [e]; exact e2))
  · rcases List.mem_append.1 hq with hq | hq
    · exact hlit q base (h2.lits q hq)
    · obtain rfl := List.mem_singleton.1 hq
      exact (hlit q w.heap.size (hl.below HBA)).low hbw
  · rw [hitm] at hx
    rcases List.mem_append.1 hx with hx | hx
    · exact h.ok x hx
    · obtain rfl := List.mem_singleton.1 hx
      exact hok
  · injection e with e
    injection e with e
    subst e
    rcases hA with hA | hA
    · exact .inl (h.fa _ hA)
    · refine .inr ⟨by rw [hA]; exact Nat.le_succ_of_le hb.size, Nat.lt_of_lt_of_le (hO.lt rfl).2 hm3.size⟩
  · rcases List.mem_append.1 hq with hq | hq
    · exact .inl (h.fl q hq i e)
    · obtain rfl := List.mem_singleton.1 hq
      refine hnS i (.inr ⟨Own.base_le hl i e, ?_⟩)
      obtain ⟨_, ⟨e2, _⟩ | ⟨g, e2, _, _, hr⟩⟩ := hl
      · rw [e2] at e; cases e
      · rw [e2] at e
        injection e with e; injection e with e
        rw [← e]; exact hr.lt
end
end Go.Proofs.Ytenadnmglhghiaa.Ar
