/- An append of a slice that can be read to a slice of the call's own, whether there is anything to append or not. Plain theorems, no condition. -/
import Derived.Test.YtcblhfjgdkbinaaFnB
namespace Go.Proofs.Ytcblhfjgdkbinaa.App
open Go.RowKit Go.Proofs.Ytcblhfjgdkbinaa.Mem Go.Proofs.Ytcblhfjgdkbinaa.Sl Go.Shelf
set_option linter.unusedVariables false

theorem grownBy_refl (w : World) (r : Option Nat) : w.grownBy w r := ⟨rfl, rfl, rfl, Nat.le_refl _, fun _ _ _ => rfl⟩
theorem wpList_app {P : Program} {w : World} {ops : Array Oper} {rest : List Oper} {o : Oper} {a : Act} {Q : Exit → Act → World → Prop} (hgd : o.guard = none) (s x : Operand) (t : TypeId)
    (ho : o.op = .call { callee := .builtin .append, args := #[s, x], argTypes := #[t, t] })
    (base : Nat) (e : TypeId) (i : TypeInfo) (z : Value) (bytes : Nat) (ht : P.underlying t = some (.slice e)) (hi : P.info? e = some i) (hz : i.zero = some z)
    (hsize : i.size = 1) (hby : i.bytes = bytes) (hzs : z.cells.size = 1)
    (v : Value) (n : Nat) (xs : List Value) (hs : a.eval s = v) (hown : w.ownsRow base e 1 v n xs)
    (A : Option Addr) (m c : Nat) (news : List Value) (hx : a.eval x = .slice A m c) (hl : m = news.length) (hr : RdV w A news) (hnil : A = none → c = 0) (h1 : ∀ u ∈ news, u.oneCell' = true)
    (h63 : n + m ≤ maxLen) (hbytes : (n + m) * bytes ≤ 140737488355328) (hbase : base ≤ w.heap.size)
    (h : ∀ v' w', w'.ownsRow base e 1 v' (n + m) (xs ++ news) → w.grownBy w' v.ownBlock → wpList P ops Q rest (a.put o.dst v') w') : wpList P ops Q (o :: rest) a w := by
  rcases A with _ | ad
  · have hm : news = [] := by
      rcases news with _ | ⟨y, ys⟩
      · rfl
      · obtain ⟨b, off, e, _⟩ := hr (by simp)
        cases e
    subst hm
    obtain rfl : m = 0 := hl
    obtain rfl := hnil rfl
    exact wpList_append_own_none hgd s x t ho base e i 1 ht hi v n xs hs hown hx (h v w (by simpa using hown) (grownBy_refl _ _))
  · refine wpList_append_own w hgd s x t ho base e i z 1 bytes ht hi hz hsize hby hzs (by decide) v n xs hs hown ad m c news hx (by omega) (fun j u hj => ?_) h1 h63 hbytes hbase (fun v' w' h1 h2 _ => h v' w' h1 h2)
    obtain ⟨b', off', e', _, hc'⟩ := RdV.at_ hr hj
    cases e'
    rw [Go.WideShapes.add_plain]
    exact hc'
/-- A row that the call owns: nil and empty, or a block from base on that begins with xs. -/
def Own (w : World) (base : Nat) (t : TypeId) (A : Option Addr) (n c : Nat) (xs : List Value) : Prop :=
  n = xs.length ∧ ((A = none ∧ c = 0 ∧ xs = []) ∨ ∃ g, A = some ⟨g, 0, none⟩ ∧ base ≤ g ∧ c ≤ maxLen ∧ Row w g t xs c)
section
variable {w w' : World} {base n c : Nat} {t : TypeId} {A : Option Addr} {xs : List Value}
theorem Own.own (h : Own w base t A n c xs) : w.ownsRow base t 1 (.slice A n c) n xs := by
  obtain ⟨hn, ⟨rfl, rfl, rfl⟩ | ⟨g, rfl, h1, h2, h3⟩⟩ := h
  · obtain rfl : n = 0 := hn
    exact ⟨rfl, .inl ⟨rfl, rfl⟩⟩
  · exact h3.own h1 h2 hn
theorem Own.of {v : Value} (h : w.ownsRow base t 1 v n xs) : ∃ A c, v = .slice A n c ∧ Own w base t A n c xs := by
  have h0 := h
  rcases h.2 with ⟨rfl, h2⟩ | ⟨g, cap, cur, rfl, h1, _, _, h4, _⟩
  · have h1 := h.1
    subst h2
    simp at h1
    subst h1
    exact ⟨none, 0, rfl, rfl, .inl ⟨rfl, rfl, rfl⟩⟩
  · obtain ⟨g', c', e, h5, h6⟩ := Row.of_own h0 (by simp)
    cases e
    exact ⟨_, cap, rfl, by have := h.1; omega, .inr ⟨g, rfl, h1, h4, h6⟩⟩
theorem Own.low {base' : Nat} (h : Own w base t A n c xs) (hb : base' ≤ base) : Own w base' t A n c xs := by
  obtain ⟨hn, h | ⟨g, rfl, h1, h2, h3⟩⟩ := h
  · exact ⟨hn, .inl h⟩
  · exact ⟨hn, .inr ⟨g, rfl, by omega, h2, h3⟩⟩
theorem Own.nil (w : World) (base : Nat) (t : TypeId) : Own w base t none 0 0 [] := ⟨rfl, .inl ⟨rfl, rfl, rfl⟩⟩
theorem Own.rd (h : Own w base t A n c xs) : RdV w A xs := by
  obtain ⟨hn, ⟨rfl, rfl, rfl⟩ | ⟨g, rfl, h1, h2, h3⟩⟩ := h
  · exact RdV.nil _ _
  · exact h3.rd
theorem Own.mod {S : Nat → Prop} (h : Own w base t A n c xs) (hm : Mod S w w') (hS : ∀ i, base ≤ i → A = some ⟨i, 0, none⟩ → ¬ S i) : Own w' base t A n c xs := by
  obtain ⟨hn, h | ⟨g, rfl, h1, h2, h3⟩⟩ := h
  · exact ⟨hn, .inl h⟩
  · exact ⟨hn, .inr ⟨g, rfl, h1, h2, h3.mod hm (hS g h1 rfl)⟩⟩
theorem Own.below (h : Own w base t A n c xs) (hb : Below w.heap.size w w') : Own w' base t A n c xs := h.mod (Mod.none_ hb (fun _ => False)) (fun _ _ _ => id)
theorem Own.alloc (h : Own w base t A n c xs) (o : Obj) : Own (w.alloc o) base t A n c xs := h.below ((Below.refl _ _).alloc (Nat.le_refl _) _)
theorem Own.drewN (h : Own w base t A n c xs) (k : Nat) : Own (w.drewN k) base t A n c xs := h.below (belowN (Below.refl _ _) k)
theorem Own.row (h : Own w base t A n c xs) (hn : 0 < n) : ∃ g, A = some ⟨g, 0, none⟩ ∧ base ≤ g ∧ Row w g t xs c := by
  obtain ⟨hn', ⟨rfl, rfl, rfl⟩ | ⟨g, rfl, h1, h2, h3⟩⟩ := h
  · simp at hn'; omega
  · exact ⟨g, rfl, h1, h3⟩
theorem Own.set_ {g : Nat} (h : Own w base t (some ⟨g, 0, none⟩) n c xs) (k : Nat) (hk : k < n) (u : Value) : Own (w.setCell ⟨g, k, none⟩ u) base t (some ⟨g, 0, none⟩) n c (xs.set k u) := by
  obtain ⟨hn, ⟨h, _⟩ | ⟨g', e, h1, h2, h3⟩⟩ := h
  · cases h
  · cases e
    exact ⟨by simpa using hn, .inr ⟨g, rfl, h1, h2, h3.set_ k (by omega) u⟩⟩
theorem Own.block {i : Nat} (h : Own w base t A n c xs) (hi : some i = (Value.slice A n c).ownBlock) : base ≤ i := by
  obtain ⟨hn, ⟨rfl, _⟩ | ⟨g, rfl, h2, _⟩⟩ := h
  · cases hi
  · cases hi; exact h2
end
end Go.Proofs.Ytcblhfjgdkbinaa.App
