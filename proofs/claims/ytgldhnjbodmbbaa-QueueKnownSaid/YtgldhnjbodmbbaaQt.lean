/- A queue and the document's, both alive: what stays of them; tells. Conditions: the memory. -/
import Derived.Test.YtgldhnjbodmbbaaQj
import Derived.Test.YtgldhnjbodmbbaaQn
import Derived.Test.YtgldhnjbodmbbaaQo
import Derived.BigQuiet
namespace Go.Proofs.Ytgldhnjbodmbbaa.Qu
open Go.RowKit Go.Proofs.Ytgldhnjbodmbbaa.Mem Go.Proofs.Ytgldhnjbodmbbaa.Sl Go.Shelf
open Go.Proofs.Ytgldhnjbodmbbaa.FnL (enc_at below_then)
open Go.Proofs.Ytgldhnjbodmbbaa.Lt (Later wp_region_later)
set_option linter.unusedVariables false

structure QA where
  g : Nat
  a : Nat
  b : Nat
  s : Nat
def mq (q : QA) (i : Nat) : Prop := i = q.g ∨ i = q.a ∨ i = q.b ∨ i = q.s
/-- A queue in memory, at these addresses. -/
def QL (w : World) (B : Nat) (q : QA) (m : QM) : Prop := ∃ r, QuR w B q.g r ∧ Inv m r ∧ (r.aA = q.a ∧ r.bA = q.b ∧ r.sA = q.s) ∧ r.met.length ≤ 4000000
theorem mq_mine {q : QA} {r : QR} (h : r.aA = q.a ∧ r.bA = q.b ∧ r.sA = q.s) : mine q.g r = mq q := by
  unfold mine mq; rw [h.1, h.2.1, h.2.2]
def Bools (w : World) (i : Nat) : Prop := ∃ cs, Blk w i 4 cs
section
variable {w w' : World} {B : Nat} {q : QA} {m : QM}
theorem QL.mod {S : Nat → Prop} (h : QL w B q m) (hm : Mod S w w') (hS : ∀ i, mq q i → ¬ S i) (hT : ∀ i, Bools w i → ¬ S i) : QL w' B q m := by
  obtain ⟨r, h1, h2, h3, h4⟩ := h
  exact ⟨r, h1.mod hm (fun i hi => hS i (by rw [← mq_mine h3]; exact hi)) (fun i e => hT i (own_blk h1.met e)), h2, h3, h4⟩
theorem QL.below (h : QL w B q m) (hb : Below w.heap.size w w') : QL w' B q m := h.mod (Mod.none_ hb (fun _ => False)) (fun _ _ => id) (fun _ _ => id)
theorem QL.low {B' : Nat} (h : QL w B q m) (hb : B' ≤ B) : QL w B' q m := by
  obtain ⟨r, h1, h2⟩ := h; exact ⟨r, h1.low hb, h2⟩
theorem QL.minB (h : QL w B q m) {i : Nat} (hi : mq q i) : B ≤ i ∧ i < w.heap.size := by
  obtain ⟨r, h1, _, h3, _⟩ := h; exact h1.minB (by rw [mq_mine h3]; exact hi)
theorem QL.typ (h : QL w B q m) {i : Nat} (hi : mq q i) : ∃ t cs, Blk w i t cs ∧ (t = 53 ∨ t = 3 ∨ t = 2) := by
  obtain ⟨r, h1, _, h3, _⟩ := h; exact h1.typ (by rw [mq_mine h3]; exact hi)
theorem QL.qw (h : QL w B q m) : QW m := by obtain ⟨r, _, h2, _⟩ := h; exact h2.w
theorem QL.bools (h : QL w B q m) {i : Nat} (hb : Bools w i) : ¬ mq q i := fun hi => by
  obtain ⟨t, cs, h1, h2⟩ := h.typ hi
  obtain ⟨cs', h3⟩ := hb
  refine h1.ne_ h3 ?_ rfl
  rcases h2 with rfl | rfl | rfl <;> decide
theorem RqR.bools {g : Nat} {d : DR} (h : RqR w B g d) {i : Nat} (hb : Bools w i) : ¬ mineD g d i := fun hi => by
  obtain ⟨t, cs, h1, h2⟩ := h.typ hi
  obtain ⟨cs', h3⟩ := hb
  refine h1.ne_ h3 ?_ rfl
  rcases h2 with rfl | rfl | rfl <;> decide
/-- New, in these words. -/
def QNewR (w : World) (N : Nat) (e : Ending) (w' : World) : Prop := ∃ q, e = .returned (.tuple #[.pointer (some ⟨q.g, 0, none⟩), .int .i64 0]) ∧ QL w' w.heap.size q (newQ N) ∧ Below w.heap.size w w'
theorem own_none {n c base : Nat} {t : TypeId} {xs : List Value} (h : App.Own w base t none n c xs) : xs = [] := by
  obtain ⟨_, ⟨_, _, e⟩ | ⟨g, e, _⟩⟩ := h
  · exact e
  · cases e
theorem qnew_ok (N : Nat) (h : N ≤ 1048576) (w : World) : Calls Try.prog 10 #[.int .i64 (N : Int)] w (QNewR w N) :=
  (new_ok N h w).mono fun e w' ⟨g, r, h1, h2, h3, h4, h5⟩ => ⟨⟨g, r.aA, r.bA, r.sA⟩, h1, ⟨r, h2, h3, ⟨rfl, rfl, rfl⟩, by
    have h6 := h2.met
    rw [h5] at h6
    have := own_none h6
    rw [List.map_eq_nil_iff] at this
    rw [this]; exact Nat.zero_le _⟩, h4⟩
def QCopyR (w : World) (m : QM) (e : Ending) (w' : World) : Prop := ∃ q, e = .returned (.pointer (some ⟨q.g, 0, none⟩)) ∧ QL w' w.heap.size q m ∧ Below w.heap.size w w'
theorem qcopy_ok (h : QL w B q m) : Calls Try.prog 19 #[.pointer (some ⟨q.g, 0, none⟩)] w (QCopyR w m) := by
  obtain ⟨r, h1, h2, h3, h4⟩ := h
  exact (copy_any h1 h2 h4).mono fun e w' ⟨⟨g, r', k1, k2, k3, k4⟩, k5⟩ => ⟨⟨g, r'.aA, r'.bA, r'.sA⟩, k1, ⟨r', k2, k3, ⟨rfl, rfl, rfl⟩, k4⟩, k5⟩
def QNextR (w : World) (B : Nat) (q : QA) (m : QM) (bs : List Bool) (e : Ending) (w' : World) : Prop :=
  e = .returned (.tuple #[.int .i64 (ansN m.row bs : Nat), .bool (decide (ansN m.row bs ≠ 0))]) ∧ QL w' B q m ∧ Mod (mq q) w w'
theorem qnext_ok (h : QL w B q m) (A : Option Addr) (n c : Nat) (bs : List Bool) (hn : n = bs.length) (hr : RdV w A (bs.map Value.bool)) (hmx : n ≤ 4000000) : Calls Try.prog 16 #[.pointer (some ⟨q.g, 0, none⟩), .slice A n c] w (QNextR w B q m bs) := by
  obtain ⟨r, h1, h2, h3, h4⟩ := h
  refine (next_any h1 h2 A n c bs hn hr hmx h4).mono fun e w' ⟨k1, r', k2, k3, k4, k5⟩ => ?_
  exact ⟨k1, ⟨r', k2, k3, ⟨k4.1.trans h3.1, k4.2.1.trans h3.2.1, k4.2.2.1.trans h3.2.2⟩, by rw [k4.2.2.2, ← hn]; exact hmx⟩, k5.mono (fun i _ e => .inl e)⟩
def QBumpR (w : World) (B : Nat) (q : QA) (m : QM) (l : List Int) (e : Ending) (w' : World) : Prop :=
  e = .returned (.int .i64 (bumpE m l)) ∧ QL w' B q (bumpM m l) ∧ Mod (mq q) w w'
theorem qbump_ok (h : QL w B q m) (hmv : m.moved ≤ 999999) (A : Option Addr) (n c : Nat) (l : List Int) (hn : n = l.length) (hr : RdV w A (LZ l)) (hl : ∀ x, x ∈ l → inI x) (hn2 : n ≤ 1000000) : Calls Try.prog 12 #[.pointer (some ⟨q.g, 0, none⟩), .slice A n c] w (QBumpR w B q m l) := by
  obtain ⟨r, h1, h2, h3, h4⟩ := h
  refine (bump_any h1 h2 hmv A n c l hn hr hl hn2).mono fun e w' ⟨k1, r', k2, k3, k4, k5⟩ => ?_
  refine ⟨k1, ⟨r', k2, k3, ⟨k4.1.trans h3.1, k4.2.1.trans h3.2.1, k4.2.2.1.trans h3.2.2⟩, ?_⟩, by rw [← mq_mine h3]; exact k5⟩
  rcases k4.2.2.2 with e | e
  · rw [e]; exact Nat.zero_le _
  · rw [e]; exact h4
theorem qorder_ok (h : QL w B q m) : Calls Try.prog 11 #[.pointer (some ⟨q.g, 0, none⟩)] w fun e w' => OrdR w m.row e w' ∧ Below w.heap.size w w' := by
  obtain ⟨r, h1, h2, _⟩ := h; exact order_any h1 h2
theorem qsize_ok (h : QL w B q m) : Calls Try.prog 23 #[.pointer (some ⟨q.g, 0, none⟩)] w fun e w' => e = .returned (.int .i64 (m.N : Int)) ∧ w = w' := by
  obtain ⟨r, h1, h2, _⟩ := h; rw [← h2.N]; exact size_any h1 (by rw [h2.N]; exact h2.w.N)
theorem qstamp_ok (h : QL w B q m) (v : Int) : Calls Try.prog 13 #[.pointer (some ⟨q.g, 0, none⟩), .int .i64 v] w fun e w' => e = .returned (.int .i64 (stampI m.N m.st v)) ∧ w = w' := by
  obtain ⟨r, h1, h2, _⟩ := h; rw [← h2.N, ← h2.st]; exact stamp_any h1 (by rw [h2.N]; exact h2.w.N) v
end
/-- Both, alive beside one another. -/
structure St (w : World) (B : Nat) (q : QA) (gd : Nat) (d : DR) (m : QM) : Prop where
  lq : QL w B q m
  r : RqR w B gd d
  i : DInv m d
  ap : ∀ i, mq q i → ¬ mineD gd d i
def FP (q : QA) (gd : Nat) (d : DR) (i : Nat) : Prop := mq q i ∨ mineD gd d i
section
variable {w w' : World} {B : Nat} {q : QA} {gd : Nat} {d : DR} {m : QM}
theorem St.mod {S : Nat → Prop} (h : St w B q gd d m) (hm : Mod S w w') (hS : ∀ i, FP q gd d i → ¬ S i) (hT : ∀ i, Bools w i → ¬ S i) : St w' B q gd d m :=
  ⟨h.lq.mod hm (fun i hi => hS i (.inl hi)) hT, h.r.mod hm (fun i hi => hS i (.inr hi)), h.i, h.ap⟩
theorem St.below (h : St w B q gd d m) (hb : Below w.heap.size w w') : St w' B q gd d m := h.mod (Mod.none_ hb (fun _ => False)) (fun _ _ => id) (fun _ _ => id)
theorem St.low {B' : Nat} (h : St w B q gd d m) (hb : B' ≤ B) : St w B' q gd d m := ⟨h.lq.low hb, h.r.low hb, h.i, h.ap⟩
theorem St.lt (h : St w B q gd d m) {i : Nat} (hi : FP q gd d i) : B ≤ i ∧ i < w.heap.size := hi.elim (fun hi => h.lq.minB hi) (fun hi => h.r.minB hi)
theorem St.bools (h : St w B q gd d m) {i : Nat} (hb : Bools w i) : ¬ FP q gd d i := fun hi => hi.elim (h.lq.bools hb) (h.r.bools hb)
end
end Go.Proofs.Ytgldhnjbodmbbaa.Qu
