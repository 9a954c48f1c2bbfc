/- The document's arena in memory. Plain theorems, no condition. -/
import Derived.Test.YtenadnmglhghiaaAi
namespace Go.Proofs.Ytenadnmglhghiaa.Ar
open Go.RowKit Go.Proofs.Ytenadnmglhghiaa.Mem Go.Proofs.Ytenadnmglhghiaa.Sl Go.Shelf
open Go.Proofs.Ytenadnmglhghiaa.FnL (enc_at below_then)
set_option linter.unusedVariables false

/-- Where a clause's literals lie. -/
structure LAd where
  A : Option Addr
  c : Nat
def cellsD (o : Nat) (p : Itm × LAd) : List Value :=
  [.int .i64 (o : Nat), .int .i64 (p.1.wd : Nat), .int .i64 p.1.id, .slice p.2.A p.1.l.length p.2.c, .bool p.1.red, .int .i64 p.1.lbd, .int .i64 p.1.used, .bool p.1.dead]
def rowsD : Nat → List (Itm × LAd) → List Value
  | _, [] => []
  | o, p :: t => cellsD o p ++ rowsD (o + p.1.wd) t
def itm (z : List (Itm × LAd)) : List Itm := z.map Prod.fst
theorem itm_len (z : List (Itm × LAd)) : (itm z).length = z.length := by simp [itm]
theorem itm_at {z : List (Itm × LAd)} {i : Nat} (h : i < z.length) : (itm z)[i]'(by rw [itm_len]; exact h) = z[i].1 := by simp [itm]
theorem rowsD_len : ∀ (o : Nat) (z : List (Itm × LAd)), (rowsD o z).length = z.length * 8
  | _, [] => rfl
  | o, p :: t => by
    rw [rowsD, List.length_append, rowsD_len, List.length_cons]
    show 8 + t.length * 8 = _
    omega
theorem rowsD_append : ∀ (a b : List (Itm × LAd)) (o : Nat), rowsD o (a ++ b) = rowsD o a ++ rowsD (o + sumw (itm a)) b
  | [], b, o => by simp [rowsD, itm, sumw_nil]
  | p :: a, b, o => by
    rw [List.cons_append, rowsD, rowsD, rowsD_append a b, List.append_assoc, show itm (p :: a) = p.1 :: itm a from rfl, sumw_cons, Nat.add_assoc]
theorem itm_take (z : List (Itm × LAd)) (i : Nat) : (itm z).take i = itm (z.take i) := by simp [itm, List.map_take]
theorem rowsD_split {z : List (Itm × LAd)} {i : Nat} (h : i < z.length) : rowsD 0 z = rowsD 0 (z.take i) ++ (cellsD (sumw ((itm z).take i)) z[i] ++ rowsD (sumw ((itm z).take i) + z[i].1.wd) (z.drop (i + 1))) := by
  conv => lhs; rw [← List.take_append_drop i z, List.drop_eq_getElem_cons h]
  rw [rowsD_append, itm_take, Nat.zero_add]
  rfl
theorem rowsD_at {z : List (Itm × LAd)} {i : Nat} (h : i < z.length) {j : Nat} (hj : j < 8) : (rowsD 0 z)[i * 8 + j]? = (cellsD (sumw ((itm z).take i)) z[i])[j]? := by
  have hl := rowsD_len 0 (z.take i)
  rw [List.length_take, Nat.min_eq_left (Nat.le_of_lt h)] at hl
  rw [rowsD_split h, List.getElem?_append_right (by omega), hl, Nat.add_sub_cancel_left, List.getElem?_append_left (by exact hj)]
/-- A row of items of one's own. -/
def IRow (w : World) (base : Nat) (A : Option Addr) (n c : Nat) (cells : List Value) : Prop :=
  cells.length = n * 8 ∧ ((A = none ∧ c = 0 ∧ cells = []) ∨ ∃ g, A = some ⟨g, 0, none⟩ ∧ base ≤ g ∧ n ≤ c ∧ c ≤ maxLen ∧ Row w g 92 cells (c * 8))
section
variable {w w' : World} {base n c : Nat} {A : Option Addr} {cells : List Value}
theorem IRow.own (h : IRow w base A n c cells) : w.ownsRow base 92 8 (.slice A n c) n cells := by
  obtain ⟨h1, ⟨rfl, rfl, rfl⟩ | ⟨g, rfl, h2, h3, h4, rest, h5, h6⟩⟩ := h
  · obtain rfl : n = 0 := by simp at h1; omega
    exact ⟨by simp, .inl ⟨rfl, rfl⟩⟩
  · exact ⟨h1, .inr ⟨g, c, (cells ++ rest).toArray, rfl, h2, h5, h3, h4, by simp; omega, by simp [← h1]⟩⟩
theorem IRow.of {v : Value} (h : w.ownsRow base 92 8 v n cells) : ∃ A c, v = .slice A n c ∧ IRow w base A n c cells := by
  obtain ⟨h1, ⟨rfl, rfl⟩ | ⟨g, c, cur, rfl, h2, h3, h4, h5, h6, h7⟩⟩ := h
  · exact ⟨none, 0, rfl, h1, .inl ⟨rfl, rfl, by simpa using h1⟩⟩
  · refine ⟨_, c, rfl, h1, .inr ⟨g, rfl, h2, h4, h5, cur.toList.drop (n * 8), ?_, ?_⟩⟩
    · unfold Blk
      rw [← h7, List.take_append_drop, Array.toArray_toList]
      exact h3
    · have h8 := Array.length_toList (xs := cur)
      rw [List.length_drop]
      omega
theorem IRow.nil (w : World) (base : Nat) : IRow w base none 0 0 [] := ⟨rfl, .inl ⟨rfl, rfl, rfl⟩⟩
theorem IRow.mod {S : Nat → Prop} (h : IRow w base A n c cells) (hm : Mod S w w') (hS : ∀ i, A = some ⟨i, 0, none⟩ → ¬ S i) : IRow w' base A n c cells := by
  obtain ⟨h1, h2 | ⟨g, rfl, h2, h3, h4, h5⟩⟩ := h
  · exact ⟨h1, .inl h2⟩
  · exact ⟨h1, .inr ⟨g, rfl, h2, h3, h4, h5.mod hm (hS g rfl)⟩⟩
theorem IRow.row (h : IRow w base A n c cells) (hn : 0 < n) : ∃ g, A = some ⟨g, 0, none⟩ ∧ base ≤ g ∧ n ≤ c ∧ Row w g 92 cells (c * 8) := by
  obtain ⟨h1, ⟨rfl, rfl, rfl⟩ | ⟨g, rfl, h2, h3, h4, h5⟩⟩ := h
  · simp at h1; omega
  · exact ⟨g, rfl, h2, h3, h5⟩
theorem IRow.low {B : Nat} (h : IRow w base A n c cells) (hb : B ≤ base) : IRow w B A n c cells := by
  obtain ⟨h1, h2 | ⟨g, rfl, h2, h3⟩⟩ := h
  · exact ⟨h1, .inl h2⟩
  · exact ⟨h1, .inr ⟨g, rfl, by omega, h3⟩⟩
theorem IRow.lt (h : IRow w base A n c cells) {i : Nat} (e : A = some ⟨i, 0, none⟩) : base ≤ i ∧ i < w.heap.size := by
  obtain ⟨h1, ⟨rfl, _⟩ | ⟨g, rfl, h2, h3, h4, h5⟩⟩ := h
  · cases e
  · obtain rfl : g = i := by injection e with e; injection e
    exact ⟨h2, h5.lt⟩
theorem IRow.ne_blk {g : Nat} {t : TypeId} {cs : Array Value} (h : IRow w base A n c cells) (hb : Blk w g t cs) (hne : 92 ≠ t) {i : Nat} (e : A = some ⟨i, 0, none⟩) : i ≠ g := by
  obtain ⟨h1, ⟨rfl, _⟩ | ⟨a, rfl, h2, h3, h4, h5⟩⟩ := h
  · cases e
  · obtain rfl : a = i := by injection e with e; injection e
    exact h5.ne_blk hb hne
end
/-- The document's arena in memory: all its blocks are in S. -/
structure RA (w : World) (base : Nat) (S : Nat → Prop) (gd : Nat) (A : Option Addr) (c : Nat) (lim : Int) (z : List (Itm × LAd)) : Prop where
  blk : Blk w gd 78 #[.int .i64 lim, .slice A z.length c, .int .i64 (sumw (itm z) : Nat)]
  row : IRow w base A z.length c (rowsD 0 z)
  lits : ∀ p, p ∈ z → App.Own w base 26 p.2.A p.1.l.length p.2.c (LI p.1.l)
  ok : ∀ x, x ∈ itm z → IOk x
  l0 : 0 ≤ lim ∧ lim ≤ 268435456
  l1 : (sumw (itm z) : Int) ≤ lim
  fg : S gd
  fa : ∀ i, A = some ⟨i, 0, none⟩ → S i
  fl : ∀ p, p ∈ z → ∀ i, p.2.A = some ⟨i, 0, none⟩ → S i
  lo : ∀ i, S i → base ≤ i
  lt : ∀ i, S i → i < w.heap.size
section
variable {w w' : World} {base gd c : Nat} {S : Nat → Prop} {A : Option Addr} {lim : Int} {z : List (Itm × LAd)}
theorem RA.mod {T : Nat → Prop} (h : RA w base S gd A c lim z) (hm : Mod T w w') (hT : ∀ i, S i → ¬ T i) : RA w' base S gd A c lim z :=
  ⟨h.blk.mod hm (hT _ h.fg), h.row.mod hm (fun i e => hT i (h.fa i e)), fun p hp => (h.lits p hp).mod hm (fun i _ e => hT i (h.fl p hp i e)), h.ok, h.l0, h.l1, h.fg, h.fa, h.fl, h.lo, fun i hi => Nat.lt_of_lt_of_le (h.lt i hi) hm.size⟩
theorem RA.below (h : RA w base S gd A c lim z) (hb : Below w.heap.size w w') : RA w' base S gd A c lim z := h.mod (Mod.none_ hb (fun _ => False)) (fun _ _ => id)
theorem RA.low {B : Nat} (h : RA w base S gd A c lim z) (hb : B ≤ base) : RA w B S gd A c lim z :=
  ⟨h.blk, h.row.low hb, fun p hp => (h.lits p hp).low hb, h.ok, h.l0, h.l1, h.fg, h.fa, h.fl, fun i hi => Nat.le_trans hb (h.lo i hi), h.lt⟩
/-- .. without the addresses. -/
def RX (w : World) (base : Nat) (S : Nat → Prop) (gd : Nat) (lim : Int) (its : List Itm) : Prop := ∃ A c z, itm z = its ∧ RA w base S gd A c lim z
theorem RX.mod {T : Nat → Prop} {its : List Itm} (h : RX w base S gd lim its) (hm : Mod T w w') (hT : ∀ i, S i → ¬ T i) : RX w' base S gd lim its := by
  obtain ⟨A, c, z, e, h⟩ := h; exact ⟨A, c, z, e, h.mod hm hT⟩
theorem RX.below {its : List Itm} (h : RX w base S gd lim its) (hb : Below w.heap.size w w') : RX w' base S gd lim its := h.mod (Mod.none_ hb (fun _ => False)) (fun _ _ => id)
theorem RX.low {B : Nat} {its : List Itm} (h : RX w base S gd lim its) (hb : B ≤ base) : RX w B S gd lim its := by
  obtain ⟨A, c, z, e, h⟩ := h; exact ⟨A, c, z, e, h.low hb⟩
theorem RX.lt {its : List Itm} (h : RX w base S gd lim its) {i : Nat} (hi : S i) : base ≤ i ∧ i < w.heap.size := by
  obtain ⟨A, c, z, e, h⟩ := h; exact ⟨h.lo i hi, h.lt i hi⟩
/-- The cells of an item. -/
theorem RA.cells (h : RA w base S gd A c lim z) {i : Nat} (hi : i < z.length) : ∃ a, A = some ⟨a, 0, none⟩ ∧ z.length ≤ c ∧ (∀ j v, j < 8 → (cellsD (sumw ((itm z).take i)) z[i])[j]? = some v → w.cell? ⟨a, i * 8 + j, none⟩ = some v) ∧ ∀ j, w.frozen? ⟨a, j, none⟩ = false := by
  obtain ⟨a, e, _, hc, hr⟩ := h.row.row (by omega)
  exact ⟨a, e, hc, fun j v hj hv => hr.cell (by rw [rowsD_at hi hj]; exact hv), fun j => hr.frozen j⟩
end
end Go.Proofs.Ytenadnmglhghiaa.Ar
