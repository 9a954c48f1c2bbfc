/- The document's trail in memory: its rows of three cells, New. Conditions: the bounds DOk, the memory. -/
import Derived.Test.YtbbpebfgdcidjaaTw
namespace Go.Proofs.Ytbbpebfgdcidjaa.Ta
open Go.RowKit Go.Proofs.Ytbbpebfgdcidjaa.Mem Go.Proofs.Ytbbpebfgdcidjaa.Sl Go.Proofs.Ytbbpebfgdcidjaa.Cl Go.Proofs.Ytbbpebfgdcidjaa.App Go.Shelf
open Go.Proofs.Ytbbpebfgdcidjaa.FnL (enc_at below_then)
set_option linter.unusedVariables false

/-- An entry: its literal, its level, its reason. -/
abbrev Ent := Int × Int × Int
def en (e : Ent) : List Value := [.int .i32 e.1, .int .i64 e.2.1, .int .i64 e.2.2]
def fl (row : List Ent) : List Value := row.flatMap en
theorem fl_len (row : List Ent) : (fl row).length = row.length * 3 := by
  unfold fl
  induction row with
  | nil => rfl
  | cons e row ih => simp [List.flatMap_cons, en, ih]; omega
theorem fl_append (a b : List Ent) : fl (a ++ b) = fl a ++ fl b := by unfold fl; rw [List.flatMap_append]
theorem fl_at {row : List Ent} {k : Nat} (hk : k < row.length) : (fl row)[k * 3]? = some (.int .i32 row[k].1) ∧ (fl row)[k * 3 + 1]? = some (.int .i64 row[k].2.1) ∧ (fl row)[k * 3 + 2]? = some (.int .i64 row[k].2.2) := by
  have h1 : fl row = fl (row.take k) ++ (en row[k] ++ fl (row.drop (k + 1))) := by
    rw [show en row[k] ++ fl (row.drop (k + 1)) = fl (row[k] :: row.drop (k + 1)) from rfl, ← fl_append, ← List.drop_eq_getElem_cons hk, List.take_append_drop]
  have h2 : (fl (row.take k)).length = k * 3 := by rw [fl_len, List.length_take]; omega
  rw [h1]
  refine ⟨?_, ?_, ?_⟩ <;> rw [List.getElem?_append_right (by omega), h2]
  · rw [Nat.sub_self]; rfl
  · rw [Nat.add_sub_cancel_left]; rfl
  · rw [Nat.add_sub_cancel_left]; rfl
theorem fl_take (row : List Ent) (k : Nat) : fl (row.take k) = (fl row).take (k * 3) := by
  by_cases hk : k ≤ row.length
  · have h1 : fl row = fl (row.take k) ++ fl (row.drop k) := by rw [← fl_append, List.take_append_drop]
    have h2 : (fl (row.take k)).length = k * 3 := by rw [fl_len, List.length_take]; omega
    have h3 := congrArg (List.take (k * 3)) h1
    rw [List.take_append_of_le_length (by omega)] at h3
    rw [h3, List.take_of_length_le (l := fl (row.take k)) (by omega)]
  · rw [List.take_of_length_le (by omega), List.take_of_length_le (by rw [fl_len]; omega)]
/-- A row of entries of one's own. -/
def ER (w : World) (base : Nat) (A : Option Addr) (c : Nat) (row : List Ent) : Prop :=
  (A = none ∧ c = 0 ∧ row = []) ∨ ∃ g cur, A = some ⟨g, 0, none⟩ ∧ base ≤ g ∧ row.length ≤ c ∧ c ≤ maxLen ∧ Blk w g 85 cur ∧ cur.size = c * 3 ∧ cur.toList.take (row.length * 3) = fl row
section
variable {w w' : World} {base c : Nat} {A : Option Addr} {row : List Ent}
theorem ER.own (h : ER w base A c row) : w.ownsRow base 85 3 (.slice A row.length c) row.length (fl row) := by
  refine ⟨fl_len row, ?_⟩
  rcases h with ⟨rfl, rfl, rfl⟩ | ⟨g, cur, rfl, h1, h2, h3, h4, h5, h6⟩
  · exact .inl ⟨rfl, rfl⟩
  · exact .inr ⟨g, c, cur, rfl, h1, h4, h2, h3, h5, h6⟩
theorem ER.of {v : Value} {n : Nat} (h : w.ownsRow base 85 3 v n (fl row)) : ∃ A c, v = .slice A row.length c ∧ ER w base A c row := by
  have hn : n = row.length := by have := h.1; rw [fl_len] at this; omega
  subst hn
  rcases h.2 with ⟨rfl, h2⟩ | ⟨g, cap, cur, rfl, h1, h2, h3, h4, h5, h6⟩
  · have : row = [] := List.length_eq_zero_iff.1 h2
    subst this
    exact ⟨none, 0, rfl, .inl ⟨rfl, rfl, rfl⟩⟩
  · exact ⟨_, cap, rfl, .inr ⟨g, cur, rfl, h1, h3, h4, h2, h5, h6⟩⟩
theorem ER.mod {S : Nat → Prop} (h : ER w base A c row) (hm : Mem.Mod S w w') (hS : ∀ i, base ≤ i → A = some ⟨i, 0, none⟩ → ¬ S i) : ER w' base A c row := by
  rcases h with h | ⟨g, cur, rfl, h1, h2, h3, h4, h5, h6⟩
  · exact .inl h
  · exact .inr ⟨g, cur, rfl, h1, h2, h3, h4.mod hm (hS g h1 rfl), h5, h6⟩
theorem ER.below (h : ER w base A c row) (hb : Below w.heap.size w w') : ER w' base A c row := h.mod (Mem.Mod.none_ hb (fun _ => False)) (fun _ _ _ => id)
theorem ER.low {base' : Nat} (h : ER w base A c row) (hb : base' ≤ base) : ER w base' A c row := by
  rcases h with h | ⟨g, cur, rfl, h1, h2⟩
  · exact .inl h
  · exact .inr ⟨g, cur, rfl, by omega, h2⟩
theorem ER.at_ (h : ER w base A c row) {k : Nat} (hk : k < row.length) : ∃ b, A = some ⟨b, 0, none⟩ ∧ b < w.heap.size ∧ w.cell? ⟨b, k * 3, none⟩ = some (.int .i32 row[k].1) ∧ w.cell? ⟨b, k * 3 + 1, none⟩ = some (.int .i64 row[k].2.1) ∧ w.cell? ⟨b, k * 3 + 2, none⟩ = some (.int .i64 row[k].2.2) := by
  rcases h with ⟨_, _, rfl⟩ | ⟨g, cur, rfl, h1, h2, h3, h4, h5, h6⟩
  · simp at hk
  · have h7 : ∀ j v, (fl row)[j]? = some v → w.cell? ⟨g, j, none⟩ = some v := fun j v hj => by
      have hl : j < row.length * 3 := by rw [← fl_len]; exact (List.getElem?_eq_some_iff.1 hj).1
      rw [h4.cell j]
      rw [← h6, List.getElem?_take_of_lt hl] at hj
      simpa using hj
    obtain ⟨a, b, c⟩ := fl_at hk
    exact ⟨g, rfl, h4.lt, h7 _ _ a, h7 _ _ b, h7 _ _ c⟩
theorem ER.frozen {b : Nat} (h : ER w base (some ⟨b, 0, none⟩) c row) (j : Nat) : w.frozen? ⟨b, j, none⟩ = false := by
  rcases h with ⟨e, _⟩ | ⟨g, cur, e, _, _, _, h4, _⟩
  · cases e
  · cases e; exact h4.frozen j
theorem ER.take (h : ER w base A c row) {k : Nat} (hk : k ≤ row.length) : ER w base A c (row.take k) := by
  rcases h with ⟨h1, h2, rfl⟩ | ⟨g, cur, rfl, h1, h2, h3, h4, h5, h6⟩
  · exact .inl ⟨h1, h2, by simp⟩
  · have hl : (row.take k).length = k := by rw [List.length_take]; omega
    refine .inr ⟨g, cur, rfl, h1, by omega, h3, h4, h5, ?_⟩
    rw [hl, fl_take, ← h6, List.take_take, Nat.min_eq_left (by omega)]
theorem ER.ne_blk {g : Nat} {t : TypeId} {cs : Array Value} (h : ER w base A c row) (hb : Blk w g t cs) (ht : t ≠ 85) : A ≠ some ⟨g, 0, none⟩ := by
  rcases h with ⟨h1, _⟩ | ⟨g', cur, rfl, _, _, _, h4, _⟩
  · rw [h1]; exact fun e => by cases e
  · intro e
    cases e
    exact h4.ne_ hb (fun e => ht e.symm) rfl
theorem ER.le (h : ER w base A c row) : row.length ≤ c ∧ c ≤ 9223372036854775807 := by
  rcases h with ⟨_, rfl, rfl⟩ | ⟨_, _, _, _, h2, h3, _⟩
  · simp
  · exact ⟨h2, Nat.le_trans h3 (by decide)⟩
theorem ER.plain (h : ER w base A c row) : ∀ ad, A = some ad → ad.spot = none ∧ ad.off = 0 := fun ad e => by
  rcases h with ⟨h1, _⟩ | ⟨g', cur, rfl, _⟩
  · rw [h1] at e; cases e
  · cases e; exact ⟨rfl, rfl⟩
end
/-- The document's trail, without addresses. -/
structure DM where
  N : Nat
  row : List Ent
  top : Nat
  head : Nat
structure DrS (w : World) (base g : Nat) (d : DM) (A : Option Addr) (c : Nat) : Prop where
  blk : Blk w g 78 #[.int .i64 d.N, .slice A d.row.length c, .int .i64 d.top, .int .i64 d.head]
  rows : ER w base A c d.row
  bg : base ≤ g
structure DOk (d : DM) : Prop where
  N : d.N ≤ 1048576
  ln : d.row.length ≤ 1000000
  tp : d.top ≤ 1000000
  hd : d.head ≤ d.row.length
  eb : ∀ e, e ∈ d.row → (-2147483648 ≤ e.1 ∧ e.1 ≤ 2147483647) ∧ (1 ≤ varI e.1 ∧ varI e.1 ≤ d.N) ∧ (0 ≤ e.2.1 ∧ e.2.1 ≤ 1000000) ∧ (-1 ≤ e.2.2 ∧ e.2.2 ≤ 9223372036854775807)
def mineD (g : Nat) (A : Option Addr) (i : Nat) : Prop := i = g ∨ A = some ⟨i, 0, none⟩
structure DStep (g : Nat) (A A' : Option Addr) (w w' : World) : Prop where
  md : Mem.Mod (mineD g A) w w'
  kp : ∀ i, i < w.heap.size → mineD g A' i → mineD g A i
section
variable {w w' : World} {base g c c' : Nat} {d : DM} {A A' : Option Addr}
theorem DrS.mod {S : Nat → Prop} (h : DrS w base g d A c) (hm : Mem.Mod S w w') (hS : ∀ i, mineD g A i → ¬ S i) : DrS w' base g d A c :=
  ⟨h.blk.mod hm (hS g (.inl rfl)), h.rows.mod hm (fun i _ e => hS i (.inr e)), h.bg⟩
theorem DrS.below (h : DrS w base g d A c) (hb : Below w.heap.size w w') : DrS w' base g d A c := h.mod (Mem.Mod.none_ hb (fun _ => False)) (fun _ _ => id)
theorem DrS.low {base' : Nat} (h : DrS w base g d A c) (hb : base' ≤ base) : DrS w base' g d A c := ⟨h.blk, h.rows.low hb, Nat.le_trans hb h.bg⟩
theorem DrS.minB (h : DrS w base g d A c) {i : Nat} (hi : mineD g A i) : base ≤ i ∧ i < w.heap.size := by
  rcases hi with rfl | hi
  · exact ⟨h.bg, h.blk.lt⟩
  · rcases h.rows with ⟨e, _⟩ | ⟨j, _, e, h1, _, _, h3, _⟩
    · rw [e] at hi; cases hi
    · rw [e] at hi; cases hi; exact ⟨h1, h3.lt⟩
theorem DStep.refl (g : Nat) (A : Option Addr) (w : World) : DStep g A A w w := ⟨Mem.Mod.refl _ _, fun _ _ h => h⟩
theorem DStep.of_below (g : Nat) (A : Option Addr) (hb : Below w.heap.size w w') : DStep g A A w w' := ⟨Mem.Mod.none_ hb _, fun _ _ h => h⟩
theorem DStep.trans {A'' : Option Addr} {w'' : World} (h : DStep g A A' w w') (k : DStep g A' A'' w' w'') : DStep g A A'' w w'' :=
  ⟨h.md.trans k.md fun i hi hm => h.kp i hi hm, fun i hi hm => h.kp i hi (k.kp i (Nat.lt_of_lt_of_le hi h.md.size) hm)⟩
theorem DStep.below (h : DStep g A A' w w') (hs : DrS w base g d A c) (hb : base ≤ w.heap.size) : Below base w w' := h.md.below (fun i _ hi => (hs.minB hi).1) hb
end
def newD (N : Nat) : DM := ⟨N, [], 0, 0⟩
theorem newD_ok {N : Nat} (h : N ≤ 1048576) : DOk (newD N) := ⟨h, by simp [newD], by simp [newD], by simp [newD], fun e he => (by cases he)⟩
theorem rnew_bad (v : Int) (h : v < 0 ∨ 1048576 < v) (w : World) : Calls Try.prog 20 #[.int .i64 v] w fun e w' => e = .returned (.tuple #[.pointer none, .int .i64 2]) ∧ w' = w := by
  by_cases p1 : v < 0
  · clear h
    go_enter Try.func20, Try.ntmps20
    go_wp2
    go_ret2
    exact ⟨rfl, rfl⟩
  · have p2 : 1048576 < v := by omega
    clear h
    go_enter Try.func20, Try.ntmps20
    go_wp2
    go_ret2
    exact ⟨rfl, rfl⟩
def RNewR (w : World) (N : Nat) (e : Ending) (w' : World) : Prop := ∃ g, e = .returned (.tuple #[.pointer (some ⟨g, 0, none⟩), .int .i64 0]) ∧ DrS w' w.heap.size g (newD N) none 0 ∧ Below w.heap.size w w'
theorem rnew_ok (N : Nat) (h : N ≤ 1048576) (w : World) : Calls Try.prog 20 #[.int .i64 (N : Int)] w fun e w' => RNewR w N e w' := by
  have p1 : ¬ (N : Int) < 0 := by omega
  have p2 : ¬ 1048576 < (N : Int) := by omega
  have HFIN := Lib.hid (show DrS (w.alloc (.cells #[.int .i64 (N : Int), .slice none 0 0, .int .i64 0, .int .i64 0] 78)) w.heap.size w.heap.size (newD N) none 0 ∧ Below w.heap.size w (w.alloc (.cells #[.int .i64 (N : Int), .slice none 0 0, .int .i64 0, .int .i64 0] 78)) from
    ⟨⟨Blk.new w _ _, .inl ⟨rfl, rfl, rfl⟩, Nat.le_refl _⟩, (Below.refl _ w).alloc (Nat.le_refl _) _⟩)
  go_enter Try.func20, Try.ntmps20
  go_wp2
  go_ret2
  exact ⟨_, by first | rfl | simp, HFIN.out.1, HFIN.out.2⟩
end Go.Proofs.Ytbbpebfgdcidjaa.Ta
