/- An arena in memory; size, is. Conditions: the memory. -/
import Derived.Test.YtenadnmglhghiaaAa
import Derived.Test.YtenadnmglhghiaaLtB
import Derived.Maps.Own
import Derived.Maps.OwnSet
import Derived.Maps.Views
import Derived.Laws.BitsAll
namespace Go.Proofs.Ytenadnmglhghiaa.Ar
open Go.RowKit Go.Proofs.Ytenadnmglhghiaa.Mem Go.Proofs.Ytenadnmglhghiaa.Sl Go.Shelf
open Go.Maps (IsMap int_keyed keyOf_int_mk isMap_empty)
open Go.Proofs.Ytenadnmglhghiaa.FnL (enc_at below_then)
set_option linter.unusedVariables false

def inI (x : Int) : Prop := -9223372036854775808 ≤ x ∧ x ≤ 9223372036854775807
theorem inI_wf {x : Int} (h : inI x) : (Lit.int .i64 x).wf = true := by
  simp only [Lit.wf, Bool.and_eq_true, decide_eq_true_eq]; exact h
set_option maxRecDepth 100000 in
theorem zero_int (w : World) : (zeroValue 3).run Try.prog w = .ok (.int .i64 0) w := by rfl
/-- Block b is a map of at most n entries whose keys are these. -/
def MapK (w : World) (b n : Nat) (ks : List Nat) : Prop :=
  ∃ D : DataW Unit, w.ownsMap Try.prog 32 (plainElem Try.prog 3) b n D ∧ IsMap D ∧ ∀ x, inI x → (Maps.has D (.int .i64 x) = true ↔ ∃ r ∈ ks, ((r : Nat) : Int) = x)
section
variable {w w' : World} {b n : Nat} {ks : List Nat}
theorem MapK.made (w : World) : MapK (w.alloc (.map #[] 0)) w.heap.size 0 [] :=
  ⟨.map [], World.ownsMap_made w _ _ _, isMap_empty, fun x _ => by simp [Maps.has_eq]⟩
theorem MapK.mod {S : Nat → Prop} (h : MapK w b n ks) (hm : Mod S w w') (hS : ¬ S b) : MapK w' b n ks := by
  obtain ⟨D, h1, h2, h3⟩ := h
  have hlt := h1.lt
  obtain ⟨es, clock, hb, F, hs, hD⟩ := h1
  exact ⟨D, ⟨es, clock, (hm.block b hlt hS).trans hb, F, hs, hD⟩, h2, h3⟩
theorem MapK.below (h : MapK w b n ks) (hb : Below w.heap.size w w') : MapK w' b n ks := h.mod (Mod.none_ hb (fun _ => False)) id
theorem MapK.lt (h : MapK w b n ks) : b < w.heap.size := by obtain ⟨D, h1, _⟩ := h; exact h1.lt
theorem MapK.mono {n' : Nat} (h : MapK w b n ks) (hn : n ≤ n') : MapK w b n' ks := by obtain ⟨D, h1, h2⟩ := h; exact ⟨D, h1.mono hn, h2⟩
theorem MapK.ne {g : Nat} {t : TypeId} {cs : Array Value} (h : MapK w b n ks) (hg : Blk w g t cs) : g ≠ b := by
  rintro rfl
  obtain ⟨D, ⟨es, clock, hb, _⟩, _⟩ := h
  unfold Blk at hg
  rw [hb] at hg
  injection hg with hg
  cases hg
theorem MapK.is (h : MapK w b n ks) {x : Int} (hx : inI x) : ∃ c : Int, (Instr.lookup 66 (.map (some b)) (.int .i64 x) true).run Try.prog w = .ok (.tuple #[.int .i64 c, .bool (decide (∃ r ∈ ks, ((r : Nat) : Int) = x))]) w := by
  obtain ⟨D, h1, h2, h3⟩ := h
  obtain ⟨v, ps, hrun, hv⟩ := h1.look_ok (int_keyed Try.underlying32) Try.underlying66 (z := .int .i64 0) (zero_int w) (plainElem_int Try.underlying3 (inI_wf (x := 0) (by unfold inI; omega))) (keyOf_int_mk Try.underlying32 (inI_wf hx))
  obtain ⟨c, rfl, _, _⟩ := plainElem_int_inv Try.underlying3 hv
  refine ⟨c, ?_⟩
  rw [hrun]
  rw [show Maps.has D (.int .i64 x) = decide (∃ r ∈ ks, ((r : Nat) : Int) = x) from by rw [Bool.eq_iff_iff, h3 x hx, decide_eq_true_eq]]
theorem MapK.put (h : MapK w b n ks) {r : Nat} {y : Int} (hx : inI r) (hy : inI y) (hn : n < maxLen) : ∃ w', (Instr.mapUpdate 66 (.map (some b)) (.int .i64 (r : Int)) (.int .i64 y)).run Try.prog w = .ok () w' ∧ MapK w' b (n + 1) (ks ++ [r]) ∧ Mod (fun i => i = b) w w' := by
  obtain ⟨D, h1, h2, h3⟩ := h
  obtain ⟨w', hrun, h4, h5⟩ := h1.update (int_keyed Try.underlying32) Try.underlying66 hn (keyOf_int_mk Try.underlying32 (inI_wf hx)) (plainElem_int Try.underlying3 (inI_wf hy))
  refine ⟨w', hrun, ⟨_, h4, h2.put _ _, fun x hx' => ?_⟩, (Mod.grown h5).mono fun i _ e => by cases e; rfl⟩
  by_cases e : x = (r : Int)
  · subst e
    rw [Maps.has_put_same h2 (by trivial)]
    simp
  · rw [Maps.has_put_other (by intro he; injection he with _ he; exact e he), h3 x hx']
    constructor
    · rintro ⟨a, ha, hax⟩; exact ⟨a, by simp [ha], hax⟩
    · rintro ⟨a, ha, hax⟩
      rcases List.mem_append.1 ha with ha | ha
      · exact ⟨a, ha, hax⟩
      · obtain rfl := List.mem_singleton.1 ha
        exact absurd hax.symm e
theorem MapK.del (h : MapK w b n ks) {ks' : List Nat} {r : Nat} (hx : inI r) (hk : ∀ a, a ∈ ks' ↔ a ∈ ks ∧ a ≠ r) (ty : TypeId) : ∃ w', (Builtin.delete_ #[66, 32] ty #[.map (some b), .int .i64 (r : Int)]).run Try.prog w = .ok (.tuple #[]) w' ∧ MapK w' b n ks' ∧ Mod (fun i => i = b) w w' := by
  obtain ⟨D, h1, h2, h3⟩ := h
  obtain ⟨w', hrun, h4, h5⟩ := h1.drop (int_keyed Try.underlying32) Try.underlying66 (keyOf_int_mk Try.underlying32 (inI_wf hx)) ty
  refine ⟨w', hrun, ⟨_, h4, h2.del _, fun x hx' => ?_⟩, (Mod.grown h5.grown).mono fun i _ e => by cases e; rfl⟩
  by_cases e : x = (r : Int)
  · subst e
    rw [Maps.has_del_same]
    simp only [Bool.false_eq_true, false_iff, not_exists, not_and]
    intro a ha hax
    exact ((hk a).1 ha).2 (by omega)
  · rw [Maps.has_del_other (by intro he; injection he with _ he; exact e he), h3 x hx']
    refine exists_congr fun a => ⟨fun ⟨ha, hax⟩ => ⟨(hk a).2 ⟨ha, by rintro rfl; exact e hax.symm⟩, hax⟩, fun ⟨ha, hax⟩ => ⟨((hk a).1 ha).1, hax⟩⟩
end
theorem hdI_bd (x : Itm) : 4 * (x.l.length : Int) ≤ hdI x ∧ hdI x ≤ 4 * (x.l.length : Int) + 3 := by unfold hdI; constructor <;> (split <;> split <;> omega)
/-- Where an arena lies. -/
structure AAd where
  g : Nat
  b : Nat
  nn : Nat
  A : Option Addr
  c : Nat
def UZ (l : List Int) : List Value := l.map (Value.int .u32)
/-- An arena in memory. -/
structure AR (w : World) (base : Nat) (q : AAd) (lim : Int) (its : List Itm) : Prop where
  blk : Blk w q.g 69 #[.int .i64 lim, .slice q.A (sumw its) q.c, .map (some q.b), .int .i64 (waste its : Nat)]
  row : App.Own w base 71 q.A (sumw its) q.c (UZ (flat its))
  mp : MapK w q.b q.nn (refs its)
  ok : ∀ x, x ∈ its → IOk x
  l0 : 0 ≤ lim ∧ lim ≤ 268435456
  l1 : (sumw its : Int) ≤ lim
  nb : q.nn ≤ its.length
  gb : base ≤ q.g
  bb : base ≤ q.b
theorem AR.mod {w w' : World} {base : Nat} {q : AAd} {lim : Int} {its : List Itm} {S : Nat → Prop} (h : AR w base q lim its) (hm : Mod S w w') (h1 : ¬ S q.g) (h2 : ¬ S q.b) (h3 : ∀ i, base ≤ i → q.A = some ⟨i, 0, none⟩ → ¬ S i) : AR w' base q lim its :=
  ⟨h.blk.mod hm h1, h.row.mod hm h3, h.mp.mod hm h2, h.ok, h.l0, h.l1, h.nb, h.gb, h.bb⟩
theorem AR.below {w w' : World} {base : Nat} {q : AAd} {lim : Int} {its : List Itm} (h : AR w base q lim its) (hb : Below w.heap.size w w') : AR w' base q lim its := h.mod (Mod.none_ hb (fun _ => False)) id id (fun _ _ _ => id)
theorem AR.low {w : World} {base B : Nat} {q : AAd} {lim : Int} {its : List Itm} (h : AR w base q lim its) (hb : B ≤ base) : AR w B q lim its :=
  ⟨h.blk, h.row.low hb, h.mp, h.ok, h.l0, h.l1, h.nb, Nat.le_trans hb h.gb, Nat.le_trans hb h.bb⟩
/-- A word of a clause that is found, where it lies. -/
theorem AR.word {w : World} {base : Nat} {q : AAd} {lim : Int} {its : List Itm} (h : AR w base q lim its) {i : Nat} (hi : i < its.length) {j : Nat} (hj : j < its[i].wd) {v : Int} (hv : (enc its[i])[j]? = some v) :
    ∃ a, q.A = some ⟨a, 0, none⟩ ∧ base ≤ a ∧ w.cell? ⟨a, sumw (its.take i) + j, none⟩ = some (.int .u32 v) ∧ w.frozen? ⟨a, sumw (its.take i) + j, none⟩ = false ∧ sumw (its.take i) + its[i].wd ≤ sumw its := by
  have hs := take_next hi
  have hle := take_le h.ok (i + 1)
  obtain ⟨a, e, hb, hr⟩ := h.row.row (by omega)
  refine ⟨a, e, hb, hr.cell ?_, hr.frozen _, by omega⟩
  unfold UZ
  rw [List.getElem?_map, flat_at h.ok hi hj, hv]; rfl
theorem is_nil (r : Int) (w : World) : Calls Try.prog 30 #[.pointer none, .int .i64 r] w fun e w' => e = .returned (.int .i64 1) ∧ w = w' := by
  go_enter Try.func30, Try.ntmps30
  go_wp2
  go_ret
  exact ⟨rfl, rfl⟩
/-- What is told of a place. -/
def isE (its : List Itm) (r : Int) : Int := if (fnd its r).isSome then 0 else 91
theorem refs_is {its : List Itm} (h : ∀ x, x ∈ its → IOk x) (r : Int) : (∃ a ∈ refs its, ((a : Nat) : Int) = r) ↔ (fnd its r).isSome = true := by
  constructor
  · rintro ⟨a, ha, rfl⟩
    obtain ⟨i, hi⟩ := (refs_mem_find h).1 ha
    rw [hi]; rfl
  · intro hs
    obtain ⟨i, hi⟩ := Option.isSome_iff_exists.1 hs
    obtain ⟨hl, e, hd⟩ := fnd_some hi
    exact ⟨_, mem_refs.2 ⟨i, hl, rfl, hd⟩, e⟩
theorem is_any {w : World} {base : Nat} {q : AAd} {lim : Int} {its : List Itm} (h : AR w base q lim its) (r : Int) (hr : inI r) : Calls Try.prog 30 #[.pointer (some ⟨q.g, 0, none⟩), .int .i64 r] w fun e w' => e = .returned (.int .i64 (isE its r)) ∧ w = w' := by
  obtain ⟨c, hlk⟩ := h.mp.is hr
  have c2 : w.cell? ⟨q.g, 2, none⟩ = some (.map (some q.b)) := h.blk.cell 2
  have HI := Lib.hid (show isE its r = if decide (∃ a ∈ refs its, ((a : Nat) : Int) = r) then 0 else 91 from by
    unfold isE
    by_cases p : (fnd its r).isSome = true
    · rw [if_pos p, if_pos (decide_eq_true ((refs_is h.ok r).2 p))]
    · rw [if_neg p, if_neg (by rw [decide_eq_true_eq]; exact fun e => p ((refs_is h.ok r).1 e))])
  generalize decide (∃ a ∈ refs its, ((a : Nat) : Int) = r) = b at *
  clear h
  rcases b with _ | _
  · have HE := Lib.hid (show isE its r = 91 from HI.out)
    clear HI
    go_enter Try.func30, Try.ntmps30
    go_wp2
    go_ret
    exact ⟨by rw [HE.out]; rfl, rfl⟩
  · have HE := Lib.hid (show isE its r = 0 from HI.out)
    clear HI
    go_enter Try.func30, Try.ntmps30
    go_wp2
    go_ret
    exact ⟨by rw [HE.out]; rfl, rfl⟩
theorem size_any {w : World} {base : Nat} {q : AAd} {lim : Int} {its : List Itm} (h : AR w base q lim its) {i : Nat} (hi : i < its.length) (hd : (its[i]).dead = false) : Calls Try.prog 31 #[.pointer (some ⟨q.g, 0, none⟩), .int .i64 (sumw (its.take i) : Nat)] w fun e w' => e = .returned (.int .i64 (its[i].l.length : Nat)) ∧ w = w' := by
  have hw := (h.ok its[i] (List.getElem_mem hi)).wd
  obtain ⟨a, eA, ha, hc, hf, hle⟩ := h.word hi (j := 0) (by omega) (v := hdI its[i]) rfl
  have c1 : w.cell? ⟨q.g, 1, none⟩ = some (.slice q.A (sumw its) q.c) := h.blk.cell 1
  rw [eA] at c1
  rw [Nat.add_zero] at hc
  have hsm := h.l1
  have hl0 := h.l0
  have hb := hdI_bd its[i]
  have HE := Lib.hid (show hdI its[i] / 4 = (its[i].l.length : Nat) from by omega)
  go_enter Try.func31, Try.ntmps31
  go_wp2
  go_ret
  exact ⟨by rw [← HE.out]; rfl, rfl⟩
end Go.Proofs.Ytenadnmglhghiaa.Ar
