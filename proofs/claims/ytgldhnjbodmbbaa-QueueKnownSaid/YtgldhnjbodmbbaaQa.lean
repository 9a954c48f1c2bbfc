/- A queue in memory, without its addresses and with them; what a store into it leaves. Plain theorems, no condition. -/
import Derived.Test.YtgldhnjbodmbbaaQp
import Derived.Test.YtgldhnjbodmbbaaAppB
import Derived.Test.YtgldhnjbodmbbaaLtB
namespace Go.Proofs.Ytgldhnjbodmbbaa.Qu
open Go.RowKit Go.Proofs.Ytgldhnjbodmbbaa.Mem Go.Proofs.Ytgldhnjbodmbbaa.Sl Go.Shelf
open Go.Proofs.Ytgldhnjbodmbbaa.FnL (enc_at below_then)
set_option linter.unusedVariables false

/-- The cells of an array of N + 1 numbers. -/
def arr (N : Nat) (f : Nat → Int) : List Value := (List.range (N + 1)).map fun v => Value.int .i64 (f v)
theorem arr_len (N : Nat) (f : Nat → Int) : (arr N f).length = N + 1 := by simp [arr]
theorem arr_at {N v : Nat} {f : Nat → Int} (h : v ≤ N) : (arr N f)[v]? = some (.int .i64 (f v)) := by
  unfold arr
  rw [List.getElem?_map, List.getElem?_range (by omega)]; rfl
def updI (f : Nat → Int) (a : Nat) (b : Int) : Nat → Int := fun u => if u = a then b else f u
theorem arr_set (N : Nat) (f : Nat → Int) (v : Nat) (x : Int) : (arr N f).set v (.int .i64 x) = arr N (updI f v x) := by
  apply List.ext_getElem?
  intro i
  rw [List.getElem?_set]
  by_cases hi : i ≤ N
  · rw [arr_at hi, arr_at hi, arr_len]
    unfold updI
    by_cases e : v = i
    · subst e; rw [if_pos rfl, if_pos (by omega), if_pos rfl]
    · rw [if_neg e, if_neg (fun h => e h.symm)]
  · rw [List.getElem?_eq_none (l := arr N f) (by rw [arr_len]; omega), List.getElem?_eq_none (l := arr N (updI f v x)) (by rw [arr_len]; omega), arr_len]
    split
    · rw [if_neg (by omega)]
    · rfl
structure QR where
  N : Nat
  ah : Nat → Int
  bh : Nat → Int
  st : Nat → Int
  moved : Int
  at_ : Int
  met : List Bool
  aA : Nat
  bA : Nat
  sA : Nat
  ac : Nat
  bc : Nat
  sc : Nat
  mA : Option Addr
  mc : Nat
def QC (r : QR) : Array Value := #[.slice (some ⟨r.aA, 0, none⟩) (r.N + 1) r.ac, .slice (some ⟨r.bA, 0, none⟩) (r.N + 1) r.bc, .slice (some ⟨r.sA, 0, none⟩) (r.N + 1) r.sc, .int .i64 r.moved, .int .i64 r.at_, .slice r.mA r.met.length r.mc]
structure QuR (w : World) (base g : Nat) (r : QR) : Prop where
  blk : Blk w g 53 (QC r)
  a : Row w r.aA 3 (arr r.N r.ah) r.ac
  b : Row w r.bA 3 (arr r.N r.bh) r.bc
  s : Row w r.sA 2 (arr r.N r.st) r.sc
  met : App.Own w base 4 r.mA r.met.length r.mc (r.met.map Value.bool)
  ne : r.aA ≠ r.bA
  bg : base ≤ g
  ba : base ≤ r.aA
  bb : base ≤ r.bA
  bs : base ≤ r.sA
def mine (g : Nat) (r : QR) (i : Nat) : Prop := i = g ∨ i = r.aA ∨ i = r.bA ∨ i = r.sA
section
variable {w w' : World} {base g : Nat} {r : QR}
theorem QuR.mod {S : Nat → Prop} (h : QuR w base g r) (hm : Mod S w w') (hS : ∀ i, mine g r i → ¬ S i) (hM : ∀ i, r.mA = some ⟨i, 0, none⟩ → ¬ S i) : QuR w' base g r :=
  ⟨h.blk.mod hm (hS _ (.inl rfl)), h.a.mod hm (hS _ (.inr (.inl rfl))), h.b.mod hm (hS _ (.inr (.inr (.inl rfl)))), h.s.mod hm (hS _ (.inr (.inr (.inr rfl)))), h.met.mod hm (fun i _ e => hM i e), h.ne, h.bg, h.ba, h.bb, h.bs⟩
theorem QuR.below (h : QuR w base g r) (hb : Below w.heap.size w w') : QuR w' base g r := h.mod (Mod.none_ hb (fun _ => False)) (fun _ _ => id) (fun _ _ => id)
theorem QuR.drewN (h : QuR w base g r) (n : Nat) : QuR (w.drewN n) base g r := h.below (belowN (Below.refl _ _) n)
theorem QuR.low {base' : Nat} (h : QuR w base g r) (hb : base' ≤ base) : QuR w base' g r := ⟨h.blk, h.a, h.b, h.s, h.met.low hb, h.ne, by have := h.bg; omega, by have := h.ba; omega, by have := h.bb; omega, by have := h.bs; omega⟩
theorem QuR.minB (h : QuR w base g r) {i : Nat} (hi : mine g r i) : base ≤ i ∧ i < w.heap.size := by
  rcases hi with rfl | rfl | rfl | rfl
  · exact ⟨h.bg, h.blk.lt⟩
  · exact ⟨h.ba, h.a.lt⟩
  · exact ⟨h.bb, h.b.lt⟩
  · exact ⟨h.bs, h.s.lt⟩
theorem QuR.typ (h : QuR w base g r) {i : Nat} (hi : mine g r i) : ∃ t cs, Blk w i t cs ∧ (t = 53 ∨ t = 3 ∨ t = 2) := by
  rcases hi with rfl | rfl | rfl | rfl
  · exact ⟨_, _, h.blk, .inl rfl⟩
  · obtain ⟨x, h1, _⟩ := h.a; exact ⟨_, _, h1, .inr (.inl rfl)⟩
  · obtain ⟨x, h1, _⟩ := h.b; exact ⟨_, _, h1, .inr (.inl rfl)⟩
  · obtain ⟨x, h1, _⟩ := h.s; exact ⟨_, _, h1, .inr (.inr rfl)⟩
theorem own_blk {n k i : Nat} {t : TypeId} {X : Option Addr} {xs : List Value} (h : App.Own w base t X n k xs) (e : X = some ⟨i, 0, none⟩) : ∃ cs, Blk w i t cs := by
  obtain ⟨_, ⟨e1, _⟩ | ⟨j, e1, _, _, r, h3, _⟩⟩ := h
  · rw [e1] at e; cases e
  · rw [e1] at e; cases e; exact ⟨_, h3⟩
theorem own_lt {n k i : Nat} {t : TypeId} {X : Option Addr} {xs : List Value} (h : App.Own w base t X n k xs) (e : X = some ⟨i, 0, none⟩) : base ≤ i ∧ i < w.heap.size := by
  obtain ⟨_, ⟨e1, _⟩ | ⟨j, e1, h2, _, h3⟩⟩ := h
  · rw [e1] at e; cases e
  · rw [e1] at e; cases e; exact ⟨h2, h3.lt⟩
/-- The row of what was met is no part that is written. -/
theorem QuR.mm (h : QuR w base g r) {i : Nat} (hi : mine g r i) (e : r.mA = some ⟨i, 0, none⟩) : False := by
  obtain ⟨t, cs, hb, ht⟩ := h.typ hi
  obtain ⟨cs', hb'⟩ := own_blk h.met e
  refine hb.ne_ hb' ?_ rfl
  rcases ht with rfl | rfl | rfl <;> decide
theorem QuR.ga (h : QuR w base g r) : g ≠ r.aA ∧ g ≠ r.bA ∧ g ≠ r.sA ∧ r.aA ≠ r.sA ∧ r.bA ≠ r.sA :=
  ⟨fun e => h.a.ne_blk h.blk (by decide) e.symm, fun e => h.b.ne_blk h.blk (by decide) e.symm, fun e => h.s.ne_blk h.blk (by decide) e.symm, fun e => h.a.ne_row h.s (by decide) e, fun e => h.b.ne_row h.s (by decide) e⟩
theorem own_far {n k : Nat} {t : TypeId} {X : Option Addr} {xs : List Value} (h : App.Own w base t X n k xs) {p : Addr} (hp : X ≠ some ⟨p.block, 0, none⟩) (u : Value) : App.Own (w.setCell p u) base t X n k xs :=
  h.mod ((Mod.refl (fun i => i = p.block) w).setCell (.inl rfl) u) (fun i _ e hi => hp (by rw [e, hi]))
theorem QuR.setA (h : QuR w base g r) {v : Nat} (hv : v ≤ r.N) (x : Int) : QuR (w.setCell ⟨r.aA, v, none⟩ (.int .i64 x)) base g { r with ah := updI r.ah v x } := by
  obtain ⟨n1, n2, n3, n4, n5⟩ := h.ga
  refine ⟨h.blk.far n1 _, ?_, h.b.far (fun e => h.ne e.symm) _, h.s.far (fun e => n4 e.symm) _, own_far h.met (fun e => h.mm (.inr (.inl rfl)) e) _, h.ne, h.bg, h.ba, h.bb, h.bs⟩
  have := h.a.set_ v (by rw [arr_len]; omega) (.int .i64 x)
  rwa [arr_set] at this
theorem QuR.setB (h : QuR w base g r) {v : Nat} (hv : v ≤ r.N) (x : Int) : QuR (w.setCell ⟨r.bA, v, none⟩ (.int .i64 x)) base g { r with bh := updI r.bh v x } := by
  obtain ⟨n1, n2, n3, n4, n5⟩ := h.ga
  refine ⟨h.blk.far n2 _, h.a.far h.ne _, ?_, h.s.far (fun e => n5 e.symm) _, own_far h.met (fun e => h.mm (.inr (.inr (.inl rfl))) e) _, h.ne, h.bg, h.ba, h.bb, h.bs⟩
  have := h.b.set_ v (by rw [arr_len]; omega) (.int .i64 x)
  rwa [arr_set] at this
theorem QuR.setS (h : QuR w base g r) {v : Nat} (hv : v ≤ r.N) (x : Int) : QuR (w.setCell ⟨r.sA, v, none⟩ (.int .i64 x)) base g { r with st := updI r.st v x } := by
  obtain ⟨n1, n2, n3, n4, n5⟩ := h.ga
  refine ⟨h.blk.far n3 _, h.a.far n4 _, h.b.far n5 _, ?_, own_far h.met (fun e => h.mm (.inr (.inr (.inr rfl))) e) _, h.ne, h.bg, h.ba, h.bb, h.bs⟩
  have := h.s.set_ v (by rw [arr_len]; omega) (.int .i64 x)
  rwa [arr_set] at this
/-- A field of the queue itself. -/
theorem QuR.field (h : QuR w base g r) (i : Nat) (u : Value) {r' : QR} (hc : (QC r).setIfInBounds i u = QC r') (e1 : r'.N = r.N) (e2 : r'.ah = r.ah) (e3 : r'.bh = r.bh) (e4 : r'.st = r.st) (e5 : r'.aA = r.aA) (e6 : r'.bA = r.bA) (e7 : r'.sA = r.sA) (e8 : r'.ac = r.ac) (e9 : r'.bc = r.bc) (e10 : r'.sc = r.sc)
    (hm : App.Own w base 4 r'.mA r'.met.length r'.mc (r'.met.map Value.bool)) : QuR (w.setCell ⟨g, i, none⟩ u) base g r' := by
  obtain ⟨n1, n2, n3, n4, n5⟩ := h.ga
  have hmm : r'.mA ≠ some ⟨g, 0, none⟩ := fun e => by
    obtain ⟨cs', hb'⟩ := own_blk hm e
    exact h.blk.ne_ hb' (by decide) rfl
  refine ⟨by rw [← hc]; exact h.blk.set_ i u, by rw [e1, e2, e5, e8]; exact h.a.far (fun e => n1 e.symm) _, by rw [e1, e3, e6, e9]; exact h.b.far (fun e => n2 e.symm) _, by rw [e1, e4, e7, e10]; exact h.s.far (fun e => n3 e.symm) _, own_far hm hmm _, by rw [e5, e6]; exact h.ne, h.bg, by rw [e5]; exact h.ba, by rw [e6]; exact h.bb, by rw [e7]; exact h.bs⟩
theorem QuR.setMoved (h : QuR w base g r) (x : Int) : QuR (w.setCell ⟨g, 3, none⟩ (.int .i64 x)) base g { r with moved := x } := h.field 3 _ rfl rfl rfl rfl rfl rfl rfl rfl rfl rfl rfl h.met
theorem QuR.setAt (h : QuR w base g r) (x : Int) : QuR (w.setCell ⟨g, 4, none⟩ (.int .i64 x)) base g { r with at_ := x } := h.field 4 _ rfl rfl rfl rfl rfl rfl rfl rfl rfl rfl rfl h.met
theorem QuR.setMet (h : QuR w base g r) (A : Option Addr) (c : Nat) (l : List Bool) (hm : App.Own w base 4 A l.length c (l.map Value.bool)) : QuR (w.setCell ⟨g, 5, none⟩ (.slice A l.length c)) base g { r with mA := A, mc := c, met := l } := h.field 5 _ rfl rfl rfl rfl rfl rfl rfl rfl rfl rfl rfl hm
theorem mod_set {S : Nat → Prop} {p : Addr} (hp : S p.block) (u : Value) : Mod S w (w.setCell p u) := (Mod.refl S w).setCell (.inl hp) u
end
/-- A queue, as the document has it. -/
structure QM where
  N : Nat
  row : List Nat
  st : Nat → Int
  moved : Int
structure QW (m : QM) : Prop where
  nd : m.row.Nodup
  mem : ∀ v, v ∈ m.row ↔ 1 ≤ v ∧ v ≤ m.N
  len : m.row.length = m.N
  N : m.N ≤ 1048576
  m0 : 0 ≤ m.moved
  m1 : m.moved ≤ 1000000
  st : ∀ v, v ≤ m.N → 0 ≤ m.st v ∧ m.st v ≤ m.N + m.moved
structure Inv (m : QM) (r : QR) : Prop where
  w : QW m
  N : r.N = m.N
  st : r.st = m.st
  moved : r.moved = m.moved
  lk : ∃ bh ah : Nat → Nat, r.bh = (fun v => (bh v : Int)) ∧ r.ah = (fun v => (ah v : Int)) ∧ Lk bh ah (cyc m.row)
  ans : r.mA ≠ none → r.at_ = ansN m.row r.met
/-- A queue in memory. -/
def QuS (w : World) (base g : Nat) (m : QM) : Prop := ∃ r, QuR w base g r ∧ Inv m r
theorem QuS.below {w w' : World} {base g : Nat} {m : QM} (h : QuS w base g m) (hb : Below w.heap.size w w') : QuS w' base g m := by
  obtain ⟨r, h1, h2⟩ := h
  exact ⟨r, h1.below hb, h2⟩
theorem QuS.low {w : World} {base base' g : Nat} {m : QM} (h : QuS w base g m) (hb : base' ≤ base) : QuS w base' g m := by
  obtain ⟨r, h1, h2⟩ := h
  exact ⟨r, h1.low hb, h2⟩
theorem QW.zero {m : QM} (h : QW m) : 0 ∉ m.row := fun e => by have := (h.mem 0).1 e; omega
end Go.Proofs.Ytgldhnjbodmbbaa.Qu
