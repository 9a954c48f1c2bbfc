/- The document's arena: Collect: what lives, three rows in memory, what is left. Conditions: the memory. -/
import Derived.Test.YtenadnmglhghiaaAz
namespace Go.Proofs.Ytenadnmglhghiaa.Ar
open Go.RowKit Go.Proofs.Ytenadnmglhghiaa.Mem Go.Proofs.Ytenadnmglhghiaa.Sl Go.Shelf
open Go.Proofs.Ytenadnmglhghiaa.FnL (enc_at below_then)
set_option linter.unusedVariables false

/-- What lives, put together, and where its literals lie. -/
def keepD (z : List (Itm × LAd)) : List (Itm × LAd) := (z.filter fun p => !p.1.dead).map fun p => (p.1.tight, p.2)
theorem keepD_itm (z : List (Itm × LAd)) : itm (keepD z) = keep (itm z) := by
  unfold itm keepD keep
  rw [List.filter_map, List.map_map, List.map_map]
  rfl
theorem keepD_append (a b : List (Itm × LAd)) : keepD (a ++ b) = keepD a ++ keepD b := by simp [keepD]
theorem keepD_one (p : Itm × LAd) : keepD [p] = if p.1.dead then [] else [(p.1.tight, p.2)] := by
  unfold keepD
  rcases hd : p.1.dead <;> simp [hd]
theorem keepD_len (z : List (Itm × LAd)) : (keepD z).length ≤ z.length := by
  unfold keepD
  rw [List.length_map]
  exact List.length_filter_le _ _
theorem keepD_mem {z : List (Itm × LAd)} {y : Itm × LAd} (h : y ∈ keepD z) : ∃ p, p ∈ z ∧ y.1.l = p.1.l ∧ y.2 = p.2 := by
  unfold keepD at h
  obtain ⟨p, hp, rfl⟩ := List.mem_map.1 h
  exact ⟨p, (List.mem_filter.1 hp).1, rfl, rfl⟩
theorem keep_refs_len (its : List Itm) : (refs (keep its)).length = (refs its).length := by
  rw [← keep_len its, ← keep_len (keep its)]
  unfold keep
  rw [List.length_map, List.filter_map, List.length_map, List.length_map, show ((fun x : Itm => !x.dead) ∘ Itm.tight) = (fun x : Itm => !x.dead) from rfl, List.filter_filter]
  simp
/-- Append to a row of ints of one's own, and where the new slice lies. -/
theorem wpAppIat {w : World} {ops : Array Oper} {rest : List Oper} {o : Oper} {a : Act} {Q : Exit → Act → World → Prop} (hgd : o.guard = none) (s x : Operand)
    (ho : o.op = .call { callee := .builtin .append, args := #[s, x], argTypes := #[31, 31] })
    (base : Nat) (A : Option Addr) (n c : Nat) (xs : List Int) (hs : a.eval s = .slice A n c) (hown : App.Own w base 3 A n c (IZ xs))
    (b off : Nat) (m c2 : Nat) (news : List Int) (hx : a.eval x = .slice (some ⟨b, off, none⟩) m c2) (hl : m = news.length) (hr : RdV w (some ⟨b, off, none⟩) (IZ news))
    (h63 : n + m ≤ 400000000) (hbase : base ≤ w.heap.size) (r : Nat) (hrr : n + m = r)
    (h : ∀ A' c' w', App.Own w' base 3 A' r c' (IZ (xs ++ news)) → Mod (fun i => A = some ⟨i, 0, none⟩) w w' → (∀ i, A' = some ⟨i, 0, none⟩ → A = some ⟨i, 0, none⟩ ∨ i = w.heap.size) → wpList Try.prog ops Q rest (a.put o.dst (.slice A' r c')) w') : wpList Try.prog ops Q (o :: rest) a w := by
  subst hrr
  obtain ⟨i0, hi⟩ := Option.isSome_iff_exists.1 (show (Try.prog.info? 3).isSome = true by kernel_rfl)
  have hz : (Try.prog.info? 3).map (fun i => (i.zero, i.size, i.bytes)) = some (some (.int .i64 0), 1, 8) := by kernel_rfl
  rw [hi] at hz
  injection hz with hz
  injection hz with hz0 hz
  injection hz with hz1 hz2
  refine wpList_append_own_at w hgd s x 31 ho base 3 i0 (.int .i64 0) 1 8 Try.underlying31 hi hz0 hz1 hz2 rfl (by decide) (.slice A n c) n (IZ xs) hs hown.own ⟨b, off, none⟩ m c2 (IZ news) hx (by simp [IZ, hl]) (fun j u hj => ?_) (fun u hu => by obtain ⟨y, _, rfl⟩ := List.mem_map.1 hu; rfl) (by unfold maxLen; omega) (by omega) hbase (fun v' w' h1 h2 _ h3 => ?_)
  · obtain ⟨b', off', e', _, hc'⟩ := RdV.at_ hr hj
    cases e'
    rw [Go.WideShapes.add_plain]
    exact hc'
  · obtain ⟨A', c', rfl, hO⟩ := App.Own.of h1
    refine h A' c' w' (by rw [IZ, List.map_append]; exact hO) ((Mod.grown h2).mono fun i _ e => own_is hown e.symm) (fun i e => ?_)
    subst e
    rcases h3 with e | e
    · exact .inl (own_is hown (e.symm.trans rfl))
    · exact .inr (by simpa [Value.ownBlock] using e)
/-- Where Collect stands: from, to, the row. -/
structure CR (w0 wr : World) (B : Nat) (A4 : Option Addr) (c4 : Nat) (A5 : Option Addr) (c5 : Nat) (A6 : Option Addr) (c6 : Nat) (F T : List Int) (zz : List (Itm × LAd)) : Prop where
  f : App.Own wr B 3 A4 F.length c4 (IZ F)
  t : App.Own wr B 3 A5 T.length c5 (IZ T)
  ne : ∀ i, A4 = some ⟨i, 0, none⟩ → A5 = some ⟨i, 0, none⟩ → False
  r : IRow wr B A6 zz.length c6 (rowsD 0 zz)
  b : Below B w0 wr
  le : B ≤ w0.heap.size
theorem IRow.ne_own {w : World} {base n c b2 n2 c2 : Nat} {A A2 : Option Addr} {cells xs : List Value} {t : TypeId} (h : IRow w base A n c cells) (h2 : App.Own w b2 t A2 n2 c2 xs) (hne : 92 ≠ t) : ∀ i, A = some ⟨i, 0, none⟩ → A2 = some ⟨i, 0, none⟩ → False := fun i e e2 => by
  obtain ⟨_, ⟨e3, _⟩ | ⟨a, e3, _, _, hr⟩⟩ := h2
  · rw [e3] at e2; cases e2
  · obtain rfl : a = i := by rw [e3] at e2; injection e2 with e2; injection e2
    obtain ⟨_, hb, _⟩ := hr
    exact h.ne_blk hb hne e rfl
section
variable {w0 wr w' : World} {B : Nat} {A4 A5 A6 A' : Option Addr} {c4 c5 c6 c' : Nat} {F T : List Int} {zz : List (Itm × LAd)}
theorem CR.start (w0 : World) : CR w0 w0 w0.heap.size none 0 none 0 none 0 [] [] [] :=
  ⟨App.Own.nil _ _ _, App.Own.nil _ _ _, fun i e => (by cases e), IRow.nil _ _, Below.refl _ _, Nat.le_refl _⟩
theorem CR.below (h : CR w0 wr B A4 c4 A5 c5 A6 c6 F T zz) (hb : Below wr.heap.size wr w') : CR w0 w' B A4 c4 A5 c5 A6 c6 F T zz :=
  ⟨h.f.below hb, h.t.below hb, h.ne, h.r.mod (Mod.none_ hb (fun _ => False)) (fun _ _ => id), h.b.trans ((Mod.none_ hb (fun _ => False)).below (fun _ _ e => e.elim) (Nat.le_trans h.le h.b.size)), h.le⟩
theorem CR.stepF (h : CR w0 wr B A4 c4 A5 c5 A6 c6 F T zz) (x : Int) (hO : App.Own w' B 3 A' (F.length + 1) c' (IZ (F ++ [x]))) (hm : Mod (fun i => A4 = some ⟨i, 0, none⟩) wr w') (ha : ∀ i, A' = some ⟨i, 0, none⟩ → A4 = some ⟨i, 0, none⟩ ∨ i = wr.heap.size) : CR w0 w' B A' c' A5 c5 A6 c6 (F ++ [x]) T zz :=
  ⟨by simpa using hO, h.t.mod hm (fun i _ e e2 => h.ne i e2 e), fun i e e2 => by
    rcases ha i e with e3 | e3
    · exact h.ne i e3 e2
    · have := Own.lt h.t e2; omega, h.r.mod hm (fun i e e2 => h.r.ne_own h.f (by decide) i e e2), h.b.trans (hm.below (fun i _ e => Own.base_le h.f i e) (Nat.le_trans h.le h.b.size)), h.le⟩
theorem CR.stepT (h : CR w0 wr B A4 c4 A5 c5 A6 c6 F T zz) (x : Int) (hO : App.Own w' B 3 A' (T.length + 1) c' (IZ (T ++ [x]))) (hm : Mod (fun i => A5 = some ⟨i, 0, none⟩) wr w') (ha : ∀ i, A' = some ⟨i, 0, none⟩ → A5 = some ⟨i, 0, none⟩ ∨ i = wr.heap.size) : CR w0 w' B A4 c4 A' c' A6 c6 F (T ++ [x]) zz :=
  ⟨h.f.mod hm (fun i _ e e2 => h.ne i e e2), by simpa using hO, fun i e e2 => by
    rcases ha i e2 with e3 | e3
    · exact h.ne i e e3
    · have := Own.lt h.f e; omega, h.r.mod hm (fun i e e2 => h.r.ne_own h.t (by decide) i e e2), h.b.trans (hm.below (fun i _ e => Own.base_le h.t i e) (Nat.le_trans h.le h.b.size)), h.le⟩
theorem CR.stepR (h : CR w0 wr B A4 c4 A5 c5 A6 c6 F T zz) (p : Itm × LAd) (hO : IRow w' B A' (zz.length + 1) c' (rowsD 0 zz ++ cellsD (sumw (itm zz)) p)) (hm : Mod (fun i => A6 = some ⟨i, 0, none⟩) wr w') : CR w0 w' B A4 c4 A5 c5 A' c' F T (zz ++ [p]) :=
  ⟨h.f.mod hm (fun i _ e e2 => h.r.ne_own h.f (by decide) i e2 e), h.t.mod hm (fun i _ e e2 => h.r.ne_own h.t (by decide) i e2 e), h.ne, by
    rw [rowsD_append, Nat.zero_add, show rowsD (sumw (itm zz)) [p] = cellsD (sumw (itm zz)) p from by simp [rowsD], List.length_append]
    exact hO, h.b.trans (hm.below (fun i _ e => (h.r.lt e).1) (Nat.le_trans h.le h.b.size)), h.le⟩
/-- A block that is none of theirs. -/
theorem CR.setB (h : CR w0 wr B A4 c4 A5 c5 A6 c6 F T zz) {b : Nat} {t : TypeId} {cs : Array Value} (hb : Blk wr b t cs) (h1 : 3 ≠ t) (hbB : B ≤ b) (hbn : ∀ i, A6 = some ⟨i, 0, none⟩ → i ≠ b) (hm : Mod (fun i => i = b) wr w') : CR w0 w' B A4 c4 A5 c5 A6 c6 F T zz :=
  ⟨h.f.mod hm (fun i _ e e2 => Own.ne_blk h.f hb h1 e e2), h.t.mod hm (fun i _ e e2 => Own.ne_blk h.t hb h1 e e2), h.ne, h.r.mod hm (fun i e e2 => hbn i e e2), h.b.trans (hm.below (fun i _ e => by rw [e]; exact hbB) (Nat.le_trans h.le h.b.size)), h.le⟩
end
section
variable {w : World} {base gd c : Nat} {S : Nat → Prop} {A : Option Addr} {lim : Int} {z : List (Itm × LAd)}
/-- What Collect leaves. -/
theorem rcollect_fin {wr : World} (h : RA w base S gd A c lim z) (hbw : base ≤ w.heap.size) {A4 A5 A6 : Option Addr} {c4 c5 c6 : Nat} {F T : List Int} (hc : CR w wr w.heap.size A4 c4 A5 c5 A6 c6 F T (keepD z)) :
    wr.cell? ⟨gd, 1, none⟩ = some (.slice A z.length c) ∧ wr.frozen? ⟨gd, 1, none⟩ = false ∧
    (∀ v, (wr.setCell ⟨gd, 1, none⟩ v).cell? ⟨gd, 2, none⟩ = some (.int .i64 (sumw (itm z) : Nat)) ∧ (wr.setCell ⟨gd, 1, none⟩ v).frozen? ⟨gd, 2, none⟩ = false) ∧
    (RN w ((wr.setCell ⟨gd, 1, none⟩ (.slice A6 (keepD z).length c6)).setCell ⟨gd, 2, none⟩ (.int .i64 (sumw (keep (itm z)) : Nat))) base S gd lim (keep (itm z)) ∧
      App.Own ((wr.setCell ⟨gd, 1, none⟩ (.slice A6 (keepD z).length c6)).setCell ⟨gd, 2, none⟩ (.int .i64 (sumw (keep (itm z)) : Nat))) w.heap.size 3 A4 F.length c4 (IZ F) ∧
      App.Own ((wr.setCell ⟨gd, 1, none⟩ (.slice A6 (keepD z).length c6)).setCell ⟨gd, 2, none⟩ (.int .i64 (sumw (keep (itm z)) : Nat))) w.heap.size 3 A5 T.length c5 (IZ T)) := by
  have h2 := h.below hc.b
  have hb2 := h2.blk
  have hgl : gd < w.heap.size := h.blk.lt
  have hm3 : Mem.Mod (fun i => i = gd) wr ((wr.setCell ⟨gd, 1, none⟩ (.slice A6 (keepD z).length c6)).setCell ⟨gd, 2, none⟩ (.int .i64 (sumw (keep (itm z)) : Nat))) :=
    Mem.Mod.setCell (Mem.Mod.setCell (Mem.Mod.refl (fun i => i = gd) _) (p := ⟨gd, 1, none⟩) (.inl rfl) _) (p := ⟨gd, 2, none⟩) (.inl rfl) _
  have hk := keepD_itm z
  refine ⟨hb2.cell 1, hb2.frozen 1, fun v => ⟨(hb2.set_ 1 v).cell 2, (hb2.set_ 1 v).frozen 2⟩, ⟨⟨A6, c6, keepD z, hk, ?_⟩, ?_⟩, hc.f.mod hm3 (fun i hi e e2 => by have e2 : i = gd := e2; omega), hc.t.mod hm3 (fun i hi e e2 => by have e2 : i = gd := e2; omega)⟩
  rotate_left
  · exact (Mod.none_ hc.b S).then_ (hm3.mono fun i _ e => by rw [e]; exact h.fg)
  refine ⟨?_, ?_, fun q hq => ?_, fun x hx => ?_, h.l0, ?_, .inl h.fg, fun i e => .inr ⟨(hc.r.lt e).1, Nat.lt_of_lt_of_le (hc.r.lt e).2 hm3.size⟩, fun q hq i e => ?_, fun i hi => hi.elim (h.lo i) (fun hi => Nat.le_trans hbw hi.1), fun i hi => hi.elim (fun hi => Nat.lt_of_lt_of_le (h.lt i hi) (Nat.le_trans hc.b.size hm3.size)) (fun hi => hi.2)⟩
  · rw [hk]
    have := (hb2.set_ 1 (.slice A6 (keepD z).length c6)).set_ 2 (.int .i64 (sumw (keep (itm z)) : Nat))
    simpa using this
  · exact (hc.r.mod hm3 (fun i e e2 => by have := (hc.r.lt e).1; have e2 : i = gd := e2; omega)).low hbw
  · obtain ⟨p, hp, e1, e2⟩ := keepD_mem hq
    rw [e1, e2]
    have h5 := h2.lits p hp
    exact h5.mod hm3 (fun i _ e e2 => Own.ne_blk h5 hb2 (by decide) e e2)
  · rw [hk] at hx; exact keep_ok h.ok x hx
  · rw [hk]
    have := keep_sumw h.ok
    have := h.l1
    omega
  · obtain ⟨p, hp, e1, e2⟩ := keepD_mem hq
    rw [e2] at e
    exact .inl (h.fl p hp i e)
end
end Go.Proofs.Ytenadnmglhghiaa.Ar
