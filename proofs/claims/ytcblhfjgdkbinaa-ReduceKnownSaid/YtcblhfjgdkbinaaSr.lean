/- Rows of structs of one's own (s cells each); appends to them. Plain theorems, no condition. -/
import Derived.Test.YtcblhfjgdkbinaaAppB
import Derived.Maps.AppendAt
namespace Go.Proofs.Ytcblhfjgdkbinaa.Sr
open Go.RowKit Go.Proofs.Ytcblhfjgdkbinaa.Mem Go.Proofs.Ytcblhfjgdkbinaa.Sl Go.Shelf
set_option linter.unusedVariables false

/-- A row of structs of s cells each of one's own. -/
def SRow (w : World) (base : Nat) (t : TypeId) (s : Nat) (A : Option Addr) (n c : Nat) (cells : List Value) : Prop :=
  cells.length = n * s ∧ ((A = none ∧ c = 0 ∧ n = 0 ∧ cells = []) ∨ ∃ g, A = some ⟨g, 0, none⟩ ∧ base ≤ g ∧ n ≤ c ∧ c ≤ maxLen ∧ Row w g t cells (c * s))
section
variable {w w' : World} {base n c s : Nat} {t : TypeId} {A : Option Addr} {cells : List Value}
theorem SRow.own (h : SRow w base t s A n c cells) : w.ownsRow base t s (.slice A n c) n cells := by
  obtain ⟨h1, ⟨rfl, rfl, rfl, rfl⟩ | ⟨g, rfl, h2, h3, h4, rest, h5, h6⟩⟩ := h
  · exact ⟨by simp, .inl ⟨rfl, rfl⟩⟩
  · exact ⟨h1, .inr ⟨g, c, (cells ++ rest).toArray, rfl, h2, h5, h3, h4, by simp; omega, by simp [← h1]⟩⟩
theorem SRow.of {v : Value} (h : w.ownsRow base t s v n cells) : ∃ A c, v = .slice A n c ∧ SRow w base t s A n c cells := by
  obtain ⟨h1, ⟨rfl, rfl⟩ | ⟨g, c, cur, rfl, h2, h3, h4, h5, h6, h7⟩⟩ := h
  · exact ⟨none, 0, rfl, h1, .inl ⟨rfl, rfl, rfl, by simpa using h1⟩⟩
  · have hns : n * s ≤ c * s := Nat.mul_le_mul_right s h4
    refine ⟨_, c, rfl, h1, .inr ⟨g, rfl, h2, h4, h5, cur.toList.drop (n * s), ?_, ?_⟩⟩
    · unfold Blk
      rw [← h7, List.take_append_drop, Array.toArray_toList]
      exact h3
    · have h8 := Array.length_toList (xs := cur)
      rw [List.length_drop]
      omega
theorem SRow.nil (w : World) (base : Nat) (t : TypeId) (s : Nat) : SRow w base t s none 0 0 [] := ⟨by simp, .inl ⟨rfl, rfl, rfl, rfl⟩⟩
theorem SRow.mod {S : Nat → Prop} (h : SRow w base t s A n c cells) (hm : Mod S w w') (hS : ∀ i, A = some ⟨i, 0, none⟩ → ¬ S i) : SRow w' base t s A n c cells := by
  obtain ⟨h1, h2 | ⟨g, rfl, h2, h3, h4, h5⟩⟩ := h
  · exact ⟨h1, .inl h2⟩
  · exact ⟨h1, .inr ⟨g, rfl, h2, h3, h4, h5.mod hm (hS g rfl)⟩⟩
theorem SRow.row (h : SRow w base t s A n c cells) (hn : 0 < n) : ∃ g, A = some ⟨g, 0, none⟩ ∧ base ≤ g ∧ n ≤ c ∧ Row w g t cells (c * s) := by
  obtain ⟨h1, ⟨rfl, rfl, rfl, rfl⟩ | ⟨g, rfl, h2, h3, h4, h5⟩⟩ := h
  · omega
  · exact ⟨g, rfl, h2, h3, h5⟩
theorem SRow.low {B : Nat} (h : SRow w base t s A n c cells) (hb : B ≤ base) : SRow w B t s A n c cells := by
  obtain ⟨h1, h2 | ⟨g, rfl, h2, h3⟩⟩ := h
  · exact ⟨h1, .inl h2⟩
  · exact ⟨h1, .inr ⟨g, rfl, by omega, h3⟩⟩
theorem SRow.lt (h : SRow w base t s A n c cells) {i : Nat} (e : A = some ⟨i, 0, none⟩) : base ≤ i ∧ i < w.heap.size := by
  obtain ⟨h1, ⟨rfl, _⟩ | ⟨g, rfl, h2, h3, h4, h5⟩⟩ := h
  · cases e
  · obtain rfl : g = i := by injection e with e; injection e
    exact ⟨h2, h5.lt⟩
theorem SRow.ne_blk {g : Nat} {t' : TypeId} {cs : Array Value} (h : SRow w base t s A n c cells) (hb : Blk w g t' cs) (hne : t ≠ t') {i : Nat} (e : A = some ⟨i, 0, none⟩) : i ≠ g := by
  obtain ⟨h1, ⟨rfl, _⟩ | ⟨a, rfl, h2, h3, h4, h5⟩⟩ := h
  · cases e
  · obtain rfl : a = i := by injection e with e; injection e
    exact h5.ne_blk hb hne
theorem SRow.below (h : SRow w base t s A n c cells) (hb : Below w.heap.size w w') : SRow w' base t s A n c cells := h.mod (Mod.none_ hb (fun _ => False)) (fun _ _ => id)
theorem SRow.alloc (h : SRow w base t s A n c cells) (o : Obj) : SRow (w.alloc o) base t s A n c cells := h.below ((Below.refl _ _).alloc (Nat.le_refl _) _)
theorem SRow.rd (h : SRow w base t s A n c cells) : RdV w A cells := by
  obtain ⟨hn, ⟨rfl, rfl, rfl, rfl⟩ | ⟨g, rfl, h1, h2, h3, h4⟩⟩ := h
  · exact RdV.nil _ _
  · exact h4.rd
theorem SRow.len (h : SRow w base t s A n c cells) : cells.length = n * s := h.1
end
/-- An append of m structs to a row of one's own. -/
theorem wpAppS {P : Program} {w : World} {ops : Array Oper} {rest : List Oper} {o : Oper} {a : Act} {Q : Exit → Act → World → Prop} (T E : TypeId) (z : Value) (k bytes : Nat) (hT : P.underlying T = some (.slice E))
    (hinfo : ∃ i, P.info? E = some i ∧ i.zero = some z ∧ i.size = k ∧ i.bytes = bytes) (hzs : z.cells.size = k) (hk : 0 < k) (hgd : o.guard = none) (s x : Operand)
    (ho : o.op = .call { callee := .builtin .append, args := #[s, x], argTypes := #[T, T] })
    (base : Nat) (A : Option Addr) (n c : Nat) (cells : List Value) (hs : a.eval s = .slice A n c) (hown : SRow w base E k A n c cells)
    (A2 : Option Addr) (m c2 : Nat) (news : List Value) (hx : a.eval x = .slice A2 m c2) (hl : news.length = m * k) (hr : RdV w A2 news) (hnil : A2 = none → c2 = 0) (h1 : ∀ u ∈ news, u.oneCell' = true)
    (h63 : n + m ≤ maxLen) (hbytes : (n + m) * bytes ≤ 140737488355328) (hbase : base ≤ w.heap.size)
    (h : ∀ A' c' w', SRow w' base E k A' (n + m) c' (cells ++ news) → Mod (fun i => A = some ⟨i, 0, none⟩) w w' → (∀ i, A' = some ⟨i, 0, none⟩ → A = some ⟨i, 0, none⟩ ∨ i = w.heap.size) → wpList P ops Q rest (a.put o.dst (.slice A' (n + m) c')) w') : wpList P ops Q (o :: rest) a w := by
  obtain ⟨i0, hi, hz0, hz1, hz2⟩ := hinfo
  have own_is : ∀ i, (Value.slice A n c).ownBlock = some i → A = some ⟨i, 0, none⟩ := fun i e => by
    obtain ⟨_, ⟨rfl, _⟩ | ⟨g, rfl, _⟩⟩ := hown
    · cases e
    · have e : g = i := Option.some.inj e
      rw [e]
  rcases A2 with _ | ad
  · have hm : news = [] := by
      rcases news with _ | ⟨y, ys⟩
      · rfl
      · obtain ⟨b, off, e, _⟩ := hr (by simp)
        cases e
    subst hm
    obtain rfl : m = 0 := by
      rcases Nat.eq_zero_or_pos m with h | h
      · exact h
      · have := Nat.mul_pos h hk; simp at hl; omega
    obtain rfl := hnil rfl
    exact wpList_append_own_none hgd s x T ho base E i0 k hT hi (.slice A n c) n cells hs hown.own hx (h A c w (by simpa using hown) (Mod.refl _ _) fun i e => .inl e)
  · refine wpList_append_own_at w hgd s x T ho base E i0 z k bytes hT hi hz0 hz1 hz2 hzs hk (.slice A n c) n cells hs hown.own ad m c2 news hx hl (fun j u hj => ?_) h1 h63 hbytes hbase (fun v' w' h1 h2 _ h3 => ?_)
    · obtain ⟨b', off', e', _, hc'⟩ := RdV.at_ hr hj
      cases e'
      rw [Go.WideShapes.add_plain]
      exact hc'
    · obtain ⟨A', c', rfl, hO⟩ := SRow.of h1
      refine h A' c' w' hO ((Mod.grown h2).mono fun i _ e => own_is i e.symm) (fun i e => ?_)
      subst e
      rcases h3 with e | e
      · exact .inl (own_is i (e.symm.trans rfl))
      · exact .inr (by simpa [Value.ownBlock] using e)
end Go.Proofs.Ytcblhfjgdkbinaa.Sr
