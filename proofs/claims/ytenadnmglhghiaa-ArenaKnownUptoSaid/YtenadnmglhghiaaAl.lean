/- An arena: what Collect keeps: plain words; rows of moves. No program but the appends. -/
import Derived.Test.YtenadnmglhghiaaAj
namespace Go.Proofs.Ytenadnmglhghiaa.Ar
open Go.RowKit Go.Proofs.Ytenadnmglhghiaa.Mem Go.Proofs.Ytenadnmglhghiaa.Sl Go.Shelf
open Go.Proofs.Ytenadnmglhghiaa.FnL (enc_at below_then)
set_option linter.unusedVariables false

def Itm.tight (x : Itm) : Itm := ⟨4 + x.l.length, x.id, x.l, x.red, x.lbd, x.used, x.dead⟩
/-- What lives, put together. -/
def keep (its : List Itm) : List Itm := (its.filter fun x => !x.dead).map Itm.tight
theorem keep_append (a b : List Itm) : keep (a ++ b) = keep a ++ keep b := by simp [keep]
theorem keep_one (x : Itm) : keep [x] = if x.dead then [] else [x.tight] := by
  unfold keep
  rcases hd : x.dead <;> simp [hd]
theorem keep_mem {its : List Itm} {y : Itm} (h : y ∈ keep its) : ∃ x, x ∈ its ∧ x.dead = false ∧ y = x.tight := by
  unfold keep at h
  obtain ⟨x, hx, rfl⟩ := List.mem_map.1 h
  obtain ⟨h1, h2⟩ := List.mem_filter.1 hx
  exact ⟨x, h1, by simpa using h2, rfl⟩
theorem keep_ok {its : List Itm} (h : ∀ x, x ∈ its → IOk x) : ∀ x, x ∈ keep its → IOk x := fun y hy => by
  obtain ⟨x, hx, _, rfl⟩ := keep_mem hy
  have := h x hx
  exact ⟨Nat.le_refl _, this.id, this.l, this.lbd, this.used⟩
theorem keep_sumw {its : List Itm} (h : ∀ x, x ∈ its → IOk x) : sumw (keep its) ≤ sumw its := by
  induction its with
  | nil => exact Nat.le_refl _
  | cons x t ih =>
    have h1 := ih fun y hy => h y (by simp [hy])
    have h2 := (h x (by simp)).wd
    rw [show x :: t = [x] ++ t from rfl, keep_append, sumw_append, sumw_append, keep_one, sumw_one]
    split
    · rw [sumw_nil]; omega
    · rw [sumw_one]; show 4 + x.l.length + _ ≤ _; omega
theorem keep_waste (its : List Itm) : waste (keep its) = 0 := by
  induction its with
  | nil => rfl
  | cons x t ih =>
    rw [show x :: t = [x] ++ t from rfl, keep_append, waste_append, ih, keep_one]
    rcases hd : x.dead
    · show waste [x.tight] + 0 = 0
      rw [waste_one]
      show (if x.dead = true then _ else 4 + x.l.length - 4 - x.l.length) + 0 = 0
      rw [hd]; simp
    · rfl
theorem keep_lenA : ∀ (its : List Itm) (o : Nat), (keep its).length = (refsA o its).length := by
  intro its
  induction its with
  | nil => intro o; rfl
  | cons x t ih =>
    intro o
    rw [show keep (x :: t) = keep ([x] ++ t) from rfl, keep_append, keep_one, refsA, List.length_append, ih (o + x.wd)]
    split
    · simp
    · simp; omega
theorem keep_len (its : List Itm) : (keep its).length = (refs its).length := keep_lenA its 0
theorem keep_all {its : List Itm} {i : Nat} (hk : refs (its.take i) = refs its) : keep (its.take i) = keep its := by
  have hs : its = its.take i ++ its.drop i := (List.take_append_drop i its).symm
  have hr : refs its = refs (its.take i) ++ refsA (sumw (its.take i)) (its.drop i) := by
    conv => lhs; rw [hs]
    unfold refs
    rw [refsA_append, Nat.zero_add]
  have h1 := congrArg List.length hr
  rw [hk, List.length_append, ← keep_lenA] at h1
  have h2 : keep (its.drop i) = [] := List.eq_nil_of_length_eq_zero (by omega)
  conv => rhs; rw [hs, keep_append, h2, List.append_nil]
/-- A clause's words, without its waste. -/
theorem enc_tight {x : Itm} (hd : x.dead = false) : enc x.tight = (enc x).take (4 + x.l.length) := by
  have h1 : hdI x.tight = hdI x := rfl
  show hdI x.tight :: x.id % 4294967296 :: x.id / 4294967296 :: (x.lbd * 65536 + x.used) :: (x.l.map u32 ++ List.replicate (4 + x.l.length - 4 - x.l.length) 0) = _
  unfold enc
  rw [h1, show 4 + x.l.length - 4 - x.l.length = 0 by omega, Nat.add_comm 4]
  simp only [List.take_succ_cons, List.replicate_zero, List.append_nil]
  rw [List.take_append_of_le_length (by rw [List.length_map]; exact Nat.le_refl _), List.take_of_length_le (by rw [List.length_map]; exact Nat.le_refl _)]
/-- The next one that lives. -/
theorem live_split : ∀ (rest : List Itm) (o : Nat), refsA o rest ≠ [] → ∃ ds x t, rest = ds ++ x :: t ∧ x.dead = false ∧ (∀ d, d ∈ ds → d.dead = true) ∧ refsA o ds = []
  | [], o, h => absurd rfl h
  | y :: r, o, h => by
    rcases hd : y.dead with _ | _
    · exact ⟨[], y, r, rfl, hd, (fun d hd => by cases hd), rfl⟩
    · rw [refsA, if_pos hd] at h
      obtain ⟨ds, x, t, e, h1, h2, h3⟩ := live_split r (o + y.wd) h
      refine ⟨y :: ds, x, t, by rw [e]; rfl, h1, fun d hd' => ?_, by rw [refsA, if_pos hd]; exact h3⟩
      rcases List.mem_cons.1 hd' with rfl | hd'
      · exact hd
      · exact h2 d hd'
theorem keep_dead {ds : List Itm} (h : ∀ d, d ∈ ds → d.dead = true) : keep ds = [] := by
  unfold keep
  rw [List.filter_eq_nil_iff.2 fun d hd => by simp [h d hd]]
  rfl
theorem next_live {its : List Itm} {i k : Nat} (hi : i ≤ its.length) (hk : refs (its.take i) = (refs its).take k) (hkl : k < (refs its).length) :
    ∃ j, ∃ hj : j < its.length, i ≤ j ∧ (its[j]).dead = false ∧ keep (its.take j) = keep (its.take i) ∧ (refs its)[k] = sumw (its.take j) ∧ refs (its.take (j + 1)) = (refs its).take (k + 1) := by
  have hs : its = its.take i ++ its.drop i := (List.take_append_drop i its).symm
  have hr : refs its = refs (its.take i) ++ refsA (sumw (its.take i)) (its.drop i) := by
    conv => lhs; rw [hs]
    unfold refs
    rw [refsA_append, Nat.zero_add]
  have hlen : (refs (its.take i)).length = k := by rw [hk, List.length_take]; omega
  have hne : refsA (sumw (its.take i)) (its.drop i) ≠ [] := fun e => by
    have := congrArg List.length hr
    rw [e, List.append_nil, hlen] at this
    omega
  obtain ⟨ds, x, t, e, h1, h2, h3⟩ := live_split _ _ hne
  have e2 : its = (its.take i ++ ds) ++ (x :: t) := by rw [List.append_assoc, ← e]; exact hs
  have hl : (its.take i ++ ds).length = i + ds.length := by rw [List.length_append, List.length_take]; omega
  have hjl : i + ds.length < its.length := by
    have := congrArg List.length e2
    rw [List.length_append, hl, List.length_cons] at this
    omega
  have htk : its.take (i + ds.length) = its.take i ++ ds := by
    conv => lhs; rw [e2]
    rw [← hl, List.take_left']; rfl
  have hx : its[i + ds.length] = x := by
    have : its[i + ds.length]? = some x := by
      conv => lhs; rw [e2]
      rw [List.getElem?_append_right (by omega), hl, Nat.sub_self]; rfl
    rw [List.getElem?_eq_getElem hjl] at this
    exact Option.some.inj this
  have hrt : refs (its.take (i + ds.length)) = (refs its).take k := by
    rw [htk]
    unfold refs
    rw [refsA_append, Nat.zero_add, h3, List.append_nil]
    exact hk
  have hr2 : refs its = (refs its).take k ++ (sumw (its.take (i + ds.length)) :: refsA (sumw (its.take (i + ds.length)) + x.wd) t) := by
    rw [← hrt]
    conv => lhs; rw [e2, ← htk]
    unfold refs
    rw [refsA_append, Nat.zero_add]
    congr 1
    rw [refsA, h1]
    rfl
  have hkk : ((refs its).take k).length = k := by rw [List.length_take]; omega
  refine ⟨i + ds.length, hjl, by omega, by rw [hx]; exact h1, by rw [htk, keep_append, keep_dead h2, List.append_nil], ?_, ?_⟩
  · have : (refs its)[k]? = some (sumw (its.take (i + ds.length))) := by
      conv => lhs; rw [hr2]
      rw [List.getElem?_append_right (by omega), hkk, Nat.sub_self]; rfl
    rw [List.getElem?_eq_getElem hkl] at this
    exact Option.some.inj this
  · rw [List.take_succ_eq_append_getElem hjl, refs_snoc, hrt, hx, h1]
    conv => rhs; rw [hr2]
    rw [List.take_append, hkk, show k + 1 - k = 1 by omega, List.take_of_length_le (l := (refs its).take k) (by omega)]
    rfl
/-- A row of structs of s cells each of one's own. -/
def SRow (w : World) (base : Nat) (t : TypeId) (s : Nat) (A : Option Addr) (n c : Nat) (cells : List Value) : Prop :=
  cells.length = n * s ∧ ((A = none ∧ c = 0 ∧ n = 0 ∧ cells = []) ∨ ∃ g, A = some ⟨g, 0, none⟩ ∧ base ≤ g ∧ n ≤ c ∧ c ≤ maxLen ∧ Row w g t cells (c * s))
section
variable {w w' : World} {base n c s : Nat} {t : TypeId} {A : Option Addr} {cells : List Value}
theorem SRow.own (h : SRow w base t s A n c cells) : w.ownsRow base t s (.slice A n c) n cells := by
  obtain ⟨h1, ⟨rfl, rfl, rfl, rfl⟩ | ⟨g, rfl, h2, h3, h4, rest, h5, h6⟩⟩ := h
  · exact ⟨by simp, .inl ⟨rfl, rfl⟩⟩
  · exact ⟨h1, .inr ⟨g, c, (cells ++ rest).toArray, rfl, h2, h5, h3, h4, by simp; omega, by simp [← h1]⟩⟩
theorem SRow.of {v : Value} (h : w.ownsRow base t s v n cells) : ∃ A c, v = .slice A n c ∧ SRow w base t s A n c cells := by
  obtain ⟨h1, ⟨rfl, rfl⟩ | ⟨g, c, cur, rfl, h2, h3, h4, h5, h6, h7⟩⟩ := h
  · exact ⟨none, 0, rfl, h1, .inl ⟨rfl, rfl, rfl, by simpa using h1⟩⟩
  · have hns : n * s ≤ c * s := Nat.mul_le_mul_right s h4
    refine ⟨_, c, rfl, h1, .inr ⟨g, rfl, h2, h4, h5, cur.toList.drop (n * s), ?_, ?_⟩⟩
    · unfold Blk
      rw [← h7, List.take_append_drop, Array.toArray_toList]
      exact h3
    · have h8 := Array.length_toList (xs := cur)
      rw [List.length_drop]
      omega
theorem SRow.nil (w : World) (base : Nat) (t : TypeId) (s : Nat) : SRow w base t s none 0 0 [] := ⟨by simp, .inl ⟨rfl, rfl, rfl, rfl⟩⟩
theorem SRow.mod {S : Nat → Prop} (h : SRow w base t s A n c cells) (hm : Mod S w w') (hS : ∀ i, A = some ⟨i, 0, none⟩ → ¬ S i) : SRow w' base t s A n c cells := by
  obtain ⟨h1, h2 | ⟨g, rfl, h2, h3, h4, h5⟩⟩ := h
  · exact ⟨h1, .inl h2⟩
  · exact ⟨h1, .inr ⟨g, rfl, h2, h3, h4, h5.mod hm (hS g rfl)⟩⟩
theorem SRow.row (h : SRow w base t s A n c cells) (hn : 0 < n) : ∃ g, A = some ⟨g, 0, none⟩ ∧ base ≤ g ∧ n ≤ c ∧ Row w g t cells (c * s) := by
  obtain ⟨h1, ⟨rfl, rfl, rfl, rfl⟩ | ⟨g, rfl, h2, h3, h4, h5⟩⟩ := h
  · omega
  · exact ⟨g, rfl, h2, h3, h5⟩
theorem SRow.low {B : Nat} (h : SRow w base t s A n c cells) (hb : B ≤ base) : SRow w B t s A n c cells := by
  obtain ⟨h1, h2 | ⟨g, rfl, h2, h3⟩⟩ := h
  · exact ⟨h1, .inl h2⟩
  · exact ⟨h1, .inr ⟨g, rfl, by omega, h3⟩⟩
theorem SRow.lt (h : SRow w base t s A n c cells) {i : Nat} (e : A = some ⟨i, 0, none⟩) : base ≤ i ∧ i < w.heap.size := by
  obtain ⟨h1, ⟨rfl, _⟩ | ⟨g, rfl, h2, h3, h4, h5⟩⟩ := h
  · cases e
  · obtain rfl : g = i := by injection e with e; injection e
    exact ⟨h2, h5.lt⟩
theorem SRow.ne_blk {g : Nat} {t' : TypeId} {cs : Array Value} (h : SRow w base t s A n c cells) (hb : Blk w g t' cs) (hne : t ≠ t') {i : Nat} (e : A = some ⟨i, 0, none⟩) : i ≠ g := by
  obtain ⟨h1, ⟨rfl, _⟩ | ⟨a, rfl, h2, h3, h4, h5⟩⟩ := h
  · cases e
  · obtain rfl : a = i := by injection e with e; injection e
    exact h5.ne_blk hb hne
theorem SRow.ne_map {b nn : Nat} {ks : List Nat} (h : SRow w base t s A n c cells) (hb : MapK w b nn ks) {i : Nat} (e : A = some ⟨i, 0, none⟩) : i ≠ b := by
  obtain ⟨_, ⟨rfl, _⟩ | ⟨a, rfl, _, _, _, ⟨_, hk, _⟩⟩⟩ := h
  · cases e
  · obtain rfl : a = i := by injection e with e; injection e
    exact hb.ne hk
end
/-- The moves' cells. -/
def mvC : List Nat → List Nat → List Value
  | f :: fs, t :: ts => .int .i64 (f : Nat) :: .int .i64 (t : Nat) :: mvC fs ts
  | _, _ => []
theorem mvC_len : ∀ (a b : List Nat), a.length = b.length → (mvC a b).length = a.length * 2
  | [], [], _ => rfl
  | f :: fs, t :: ts, h => by
    have := mvC_len fs ts (by simpa using h)
    simp [mvC, this]; omega
theorem mvC_snoc : ∀ (a b : List Nat) (f t : Nat), a.length = b.length → mvC (a ++ [f]) (b ++ [t]) = mvC a b ++ [.int .i64 (f : Nat), .int .i64 (t : Nat)]
  | [], [], f, t, _ => rfl
  | x :: a, y :: b, f, t, h => by
    have := mvC_snoc a b f t (by simpa using h)
    simp [mvC, this]
theorem mvC_at : ∀ (a b : List Nat) (i : Nat) (hi : i < a.length) (hb : i < b.length), (mvC a b)[i * 2]? = some (.int .i64 (a[i] : Nat)) ∧ (mvC a b)[i * 2 + 1]? = some (.int .i64 (b[i] : Nat))
  | f :: fs, t :: ts, 0, _, _ => ⟨rfl, rfl⟩
  | f :: fs, t :: ts, i + 1, hi, hb => by
    have := mvC_at fs ts i (by simpa using hi) (by simpa using hb)
    rw [show (i + 1) * 2 = i * 2 + 1 + 1 by omega]
    exact this
theorem wpAppM {w : World} {ops : Array Oper} {rest : List Oper} {o : Oper} {a : Act} {Q : Exit → Act → World → Prop} (hgd : o.guard = none) (s x : Operand)
    (ho : o.op = .call { callee := .builtin .append, args := #[s, x], argTypes := #[39, 39] })
    (base : Nat) (A : Option Addr) (n c : Nat) (cells : List Value) (hs : a.eval s = .slice A n c) (hown : SRow w base 42 2 A n c cells)
    (b off : Nat) (c2 : Nat) (f t : Int) (hx : a.eval x = .slice (some ⟨b, off, none⟩) 1 c2) (hr : RdV w (some ⟨b, off, none⟩) [.int .i64 f, .int .i64 t])
    (h63 : n + 1 ≤ 400000000) (hbase : base ≤ w.heap.size)
    (h : ∀ A' c' w', SRow w' base 42 2 A' (n + 1) c' (cells ++ [.int .i64 f, .int .i64 t]) → Mod (fun i => A = some ⟨i, 0, none⟩) w w' → (∀ i, A' = some ⟨i, 0, none⟩ → A = some ⟨i, 0, none⟩ ∨ i = w.heap.size) → wpList Try.prog ops Q rest (a.put o.dst (.slice A' (n + 1) c')) w') : wpList Try.prog ops Q (o :: rest) a w := by
  obtain ⟨i0, hi⟩ := Option.isSome_iff_exists.1 (show (Try.prog.info? 42).isSome = true by kernel_rfl)
  have hz : (Try.prog.info? 42).map (fun i => (i.zero, i.size, i.bytes)) = some (some (.agg #[.int .i64 0, .int .i64 0]), 2, 16) := by kernel_rfl
  rw [hi] at hz
  injection hz with hz
  injection hz with hz0 hz
  injection hz with hz1 hz2
  have own_is : ∀ i, (Value.slice A n c).ownBlock = some i → A = some ⟨i, 0, none⟩ := fun i e => by
    obtain ⟨_, ⟨rfl, _⟩ | ⟨g, rfl, _⟩⟩ := hown
    · cases e
    · have e : g = i := Option.some.inj e
      rw [e]
  refine wpList_append_own_at w hgd s x 39 ho base 42 i0 (.agg #[.int .i64 0, .int .i64 0]) 2 16 Try.underlying39 hi hz0 hz1 hz2 rfl (by decide) (.slice A n c) n cells hs hown.own ⟨b, off, none⟩ 1 c2 [.int .i64 f, .int .i64 t] hx rfl (fun j u hj => ?_) (fun u hu => by
    rcases List.mem_cons.1 hu with rfl | hu
    · rfl
    · obtain rfl := List.mem_singleton.1 hu
      rfl) (by unfold maxLen; omega) (by omega) hbase (fun v' w' h1 h2 _ h3 => ?_)
  · obtain ⟨b', off', e', _, hc'⟩ := RdV.at_ hr hj
    cases e'
    rw [Go.WideShapes.add_plain]
    exact hc'
  · obtain ⟨A', c', rfl, hO⟩ := SRow.of h1
    refine h A' c' w' hO ((Mod.grown h2).mono fun i _ e => own_is i e.symm) (fun i e => ?_)
    subst e
    rcases h3 with e | e
    · exact .inl (own_is i (e.symm.trans rfl))
    · exact .inr (by simpa [Value.ownBlock] using e)
end Go.Proofs.Ytenadnmglhghiaa.Ar
