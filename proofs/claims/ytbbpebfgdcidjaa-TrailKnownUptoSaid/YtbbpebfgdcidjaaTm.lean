/- A trail in memory, without its addresses (TM), and what a call leaves of it. Plain theorems, no condition. -/
import Derived.Test.YtbbpebfgdcidjaaTa
import Derived.Test.YtbbpebfgdcidjaaLtB
namespace Go.Proofs.Ytbbpebfgdcidjaa.Ta
open Go.RowKit Go.Proofs.Ytbbpebfgdcidjaa.Mem Go.Proofs.Ytbbpebfgdcidjaa.Sl Go.Proofs.Ytbbpebfgdcidjaa.Cl Go.Proofs.Ytbbpebfgdcidjaa.App Go.Shelf
open Go.Proofs.Ytbbpebfgdcidjaa.FnL (enc_at below_then)
set_option linter.unusedVariables false

structure TM where
  N : Nat
  lits : List Int
  sp : Nat → Int × Int × Int
  starts : List Nat
  head : Nat
structure TQ where
  lA : Option Addr
  lc : Nat
  gs : Nat
  tA : Option Addr
  tc : Nat
/-- What is known of each variable. -/
def Sp (w : World) (gs N : Nat) (sp : Nat → Int × Int × Int) : Prop :=
  ∃ cs : Array Value, Blk w gs 67 cs ∧ cs.size = 3 * (N + 1) ∧ ∀ v, v ≤ N → cs[v * 3]? = some (.int .i64 (sp v).1) ∧ cs[v * 3 + 1]? = some (.int .i64 (sp v).2.1) ∧ cs[v * 3 + 2]? = some (.int .i64 (sp v).2.2)
structure TrS (w : World) (base g : Nat) (m : TM) (q : TQ) : Prop where
  blk : Blk w g 63 #[.slice q.lA m.lits.length q.lc, .slice (some ⟨q.gs, 0, none⟩) (m.N + 1) (m.N + 1), .slice q.tA m.starts.length q.tc, .int .i64 m.head]
  lits : Own w base 30 q.lA m.lits.length q.lc (LI m.lits)
  starts : Own w base 3 q.tA m.starts.length q.tc (LN m.starts)
  spots : Sp w q.gs m.N m.sp
  bg : base ≤ g
  bs : base ≤ q.gs
/-- The bounds under which nothing goes wrong. -/
structure TOk (m : TM) : Prop where
  N : m.N ≤ 1048576
  ln : m.lits.length ≤ 1000000
  sn : m.starts.length ≤ 1000000
  lb : ∀ x, x ∈ m.lits → (-2147483648 ≤ x ∧ x ≤ 2147483647) ∧ 1 ≤ varI x ∧ varI x ≤ m.N
  sp : ∀ v, v ≤ m.N → 0 ≤ (m.sp v).1 ∧ (m.sp v).1 ≤ m.lits.length ∧ -9223372036854775808 ≤ (m.sp v).2.2 ∧ (m.sp v).2.2 ≤ 9223372036854775807
  st : ∀ n, n ∈ m.starts → n ≤ m.lits.length
  hd : m.head ≤ m.lits.length
def mine (g : Nat) (q : TQ) (i : Nat) : Prop := i = g ∨ i = q.gs ∨ q.lA = some ⟨i, 0, none⟩ ∨ q.tA = some ⟨i, 0, none⟩
structure TStep (g : Nat) (q q' : TQ) (w w' : World) : Prop where
  md : Mem.Mod (mine g q) w w'
  kp : ∀ i, i < w.heap.size → mine g q' i → mine g q i
section
variable {w w' : World} {base g : Nat} {m : TM} {q q' : TQ}
theorem Sp.mod {S : Nat → Prop} {gs N : Nat} {sp : Nat → Int × Int × Int} (h : Sp w gs N sp) (hm : Mem.Mod S w w') (hg : ¬ S gs) : Sp w' gs N sp := by
  obtain ⟨cs, h1, h2⟩ := h
  exact ⟨cs, h1.mod hm hg, h2⟩
theorem Sp.lt {gs N : Nat} {sp : Nat → Int × Int × Int} (h : Sp w gs N sp) : gs < w.heap.size := by obtain ⟨cs, h1, _⟩ := h; exact h1.lt
theorem Sp.cell {gs N : Nat} {sp : Nat → Int × Int × Int} (h : Sp w gs N sp) {v : Nat} (hv : v ≤ N) : w.cell? ⟨gs, v * 3, none⟩ = some (.int .i64 (sp v).1) ∧ w.cell? ⟨gs, v * 3 + 1, none⟩ = some (.int .i64 (sp v).2.1) ∧ w.cell? ⟨gs, v * 3 + 2, none⟩ = some (.int .i64 (sp v).2.2) := by
  obtain ⟨cs, h1, h2, h3⟩ := h
  exact ⟨(h1.cell _).trans (h3 v hv).1, (h1.cell _).trans (h3 v hv).2.1, (h1.cell _).trans (h3 v hv).2.2⟩
theorem Sp.frozen {gs N : Nat} {sp : Nat → Int × Int × Int} (h : Sp w gs N sp) (i : Nat) : w.frozen? ⟨gs, i, none⟩ = false := by obtain ⟨cs, h1, _⟩ := h; exact h1.frozen i
def upd (sp : Nat → Int × Int × Int) (v : Nat) (x : Int × Int × Int) : Nat → Int × Int × Int := fun u => if u = v then x else sp u
theorem Sp.set3 {gs N : Nat} {sp : Nat → Int × Int × Int} (h : Sp w gs N sp) {v : Nat} (hv : v ≤ N) (a b c : Int) :
    Sp (((w.setCell ⟨gs, v * 3, none⟩ (.int .i64 a)).setCell ⟨gs, v * 3 + 1, none⟩ (.int .i64 b)).setCell ⟨gs, v * 3 + 2, none⟩ (.int .i64 c)) gs N (upd sp v (a, b, c)) := by
  obtain ⟨cs, h1, h2, h3⟩ := h
  refine ⟨_, ((h1.set_ (v * 3) _).set_ (v * 3 + 1) _).set_ (v * 3 + 2) _, by simpa using h2, fun u hu => ?_⟩
  have h4 := h3 u hu
  simp only [Array.getElem?_setIfInBounds, Array.size_setIfInBounds, h2]
  unfold upd
  by_cases e : u = v
  · subst e
    rw [if_pos rfl]
    refine ⟨?_, ?_, ?_⟩
    · rw [if_neg (by omega), if_neg (by omega), if_pos rfl, if_pos (by omega)]
    · rw [if_neg (by omega), if_pos rfl, if_pos (by omega)]; simp
    · rw [if_pos rfl, if_pos (by omega)]; simp
  · rw [if_neg e]
    refine ⟨?_, ?_, ?_⟩
    · rw [if_neg (by omega), if_neg (by omega), if_neg (by omega)]; exact h4.1
    · rw [if_neg (by omega), if_neg (by omega), if_neg (by omega)]; exact h4.2.1
    · rw [if_neg (by omega), if_neg (by omega), if_neg (by omega)]; exact h4.2.2
theorem Own.ne_blk {n c : Nat} {t t' : TypeId} {A : Option Addr} {xs : List Value} {h : Nat} {cs : Array Value} (ho : Own w base t A n c xs) (hb : Blk w h t' cs) (hne : t ≠ t') : A ≠ some ⟨h, 0, none⟩ := by
  obtain ⟨_, ⟨rfl, _⟩ | ⟨i, rfl, _, _, h3⟩⟩ := ho
  · simp
  · intro e; cases e
    exact h3.ne_blk hb hne rfl
theorem Own.ne_own {n c n' c' : Nat} {t t' : TypeId} {A A' : Option Addr} {xs xs' : List Value} {i : Nat} (ho : Own w base t A n c xs) (hb : Own w base t' A' n' c' xs') (hne : t ≠ t') (h1 : A = some ⟨i, 0, none⟩) : A' ≠ some ⟨i, 0, none⟩ := by
  obtain ⟨_, ⟨rfl, _⟩ | ⟨j, rfl, _, _, h3⟩⟩ := ho
  · cases h1
  · cases h1
    obtain ⟨r, h4, _⟩ := h3
    exact Own.ne_blk hb h4 (fun e => hne e.symm)
theorem TrS.ng (h : TrS w base g m q) : g ≠ q.gs := by
  obtain ⟨cs, h1, _⟩ := h.spots
  exact h.blk.ne_ h1 (by decide)
theorem TrS.nl (h : TrS w base g m q) : q.lA ≠ some ⟨g, 0, none⟩ ∧ q.lA ≠ some ⟨q.gs, 0, none⟩ := by
  obtain ⟨cs, h1, _⟩ := h.spots
  exact ⟨Own.ne_blk h.lits h.blk (by decide), Own.ne_blk h.lits h1 (by decide)⟩
theorem TrS.nt (h : TrS w base g m q) : q.tA ≠ some ⟨g, 0, none⟩ ∧ q.tA ≠ some ⟨q.gs, 0, none⟩ := by
  obtain ⟨cs, h1, _⟩ := h.spots
  exact ⟨Own.ne_blk h.starts h.blk (by decide), Own.ne_blk h.starts h1 (by decide)⟩
theorem TrS.nlt (h : TrS w base g m q) (i : Nat) (h1 : q.lA = some ⟨i, 0, none⟩) : q.tA ≠ some ⟨i, 0, none⟩ := Own.ne_own h.lits h.starts (by decide) h1
theorem TrS.mod {S : Nat → Prop} (h : TrS w base g m q) (hm : Mem.Mod S w w') (hS : ∀ i, mine g q i → ¬ S i) : TrS w' base g m q :=
  ⟨h.blk.mod hm (hS g (.inl rfl)), h.lits.mod hm (fun i _ e => hS i (.inr (.inr (.inl e)))), h.starts.mod hm (fun i _ e => hS i (.inr (.inr (.inr e)))), h.spots.mod hm (hS q.gs (.inr (.inl rfl))), h.bg, h.bs⟩
theorem TrS.below (h : TrS w base g m q) (hb : Below w.heap.size w w') : TrS w' base g m q := h.mod (Mem.Mod.none_ hb (fun _ => False)) (fun _ _ => id)
theorem TrS.drewN (h : TrS w base g m q) (k : Nat) : TrS (w.drewN k) base g m q := h.below (belowN (Below.refl _ _) k)
theorem TrS.low {base' : Nat} (h : TrS w base g m q) (hb : base' ≤ base) : TrS w base' g m q := ⟨h.blk, h.lits.low hb, h.starts.low hb, h.spots, Nat.le_trans hb h.bg, Nat.le_trans hb h.bs⟩
theorem TrS.minB (h : TrS w base g m q) {i : Nat} (hi : mine g q i) : base ≤ i ∧ i < w.heap.size := by
  rcases hi with rfl | rfl | hi | hi
  · exact ⟨h.bg, h.blk.lt⟩
  · exact ⟨h.bs, h.spots.lt⟩
  · obtain ⟨_, ⟨e, _⟩ | ⟨j, e, h1, _, h3⟩⟩ := h.lits
    · rw [e] at hi; cases hi
    · rw [e] at hi; cases hi; exact ⟨h1, h3.lt⟩
  · obtain ⟨_, ⟨e, _⟩ | ⟨j, e, h1, _, h3⟩⟩ := h.starts
    · rw [e] at hi; cases hi
    · rw [e] at hi; cases hi; exact ⟨h1, h3.lt⟩
theorem TStep.refl (g : Nat) (q : TQ) (w : World) : TStep g q q w w := ⟨Mem.Mod.refl _ _, fun _ _ h => h⟩
theorem TStep.of_below (g : Nat) (q : TQ) (hb : Below w.heap.size w w') : TStep g q q w w' := ⟨Mem.Mod.none_ hb _, fun _ _ h => h⟩
theorem TStep.trans {q'' : TQ} {w'' : World} (h : TStep g q q' w w') (k : TStep g q' q'' w' w'') : TStep g q q'' w w'' :=
  ⟨h.md.trans k.md fun i hi hm => h.kp i hi hm, fun i hi hm => h.kp i hi (k.kp i (Nat.lt_of_lt_of_le hi h.md.size) hm)⟩
theorem TStep.below (h : TStep g q q' w w') (hs : TrS w base g m q) (hb : base ≤ w.heap.size) : Below base w w' := h.md.below (fun i _ hi => (hs.minB hi).1) hb
end
end Go.Proofs.Ytbbpebfgdcidjaa.Ta
