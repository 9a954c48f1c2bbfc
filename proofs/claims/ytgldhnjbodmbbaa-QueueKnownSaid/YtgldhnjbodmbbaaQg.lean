/- A map from ints to ints of one's own, as a function. Plain theorems, no condition. -/
import Derived.Test.YtgldhnjbodmbbaaQf
import Derived.Maps.Own
import Derived.Maps.Views
namespace Go.Proofs.Ytgldhnjbodmbbaa.Qu
open Go.RowKit Go.Proofs.Ytgldhnjbodmbbaa.Mem Go.Proofs.Ytgldhnjbodmbbaa.Sl Go.Shelf
open Go.Maps (IsMap int_keyed keyOf_int_mk atKey_put_same atKey_put_other isMap_empty)
open Go.Proofs.Ytgldhnjbodmbbaa.FnL (enc_at below_then)
set_option linter.unusedVariables false

def inI (x : Int) : Prop := -9223372036854775808 ≤ x ∧ x ≤ 9223372036854775807
theorem inI_wf {x : Int} (h : inI x) : (Lit.int .i64 x).wf = true := by
  simp only [Lit.wf, Bool.and_eq_true, decide_eq_true_eq]; exact h
/-- Block b is a map of at most n entries that answers f. -/
def MapI (w : World) (b n : Nat) (f : Int → Int) : Prop :=
  ∃ D : DataW Unit, w.ownsMap Try.prog 3 (plainElem Try.prog 3) b n D ∧ IsMap D ∧ ∀ x, inI x → D.atKey (.int .i64 x) (.lit (.int .i64 0)) = .lit (.int .i64 (f x))
section
variable {w w' : World} {b n : Nat} {f : Int → Int}
theorem MapI.made (w : World) : MapI (w.alloc (.map #[] 0)) w.heap.size 0 (fun _ => 0) :=
  ⟨.map [], World.ownsMap_made w _ _ _, isMap_empty, fun x _ => rfl⟩
theorem MapI.mod {S : Nat → Prop} (h : MapI w b n f) (hm : Mod S w w') (hS : ¬ S b) : MapI w' b n f := by
  obtain ⟨D, h1, h2, h3⟩ := h
  have hlt := h1.lt
  obtain ⟨es, clock, hb, F, hs, hD⟩ := h1
  exact ⟨D, ⟨es, clock, (hm.block b hlt hS).trans hb, F, hs, hD⟩, h2, h3⟩
theorem MapI.below (h : MapI w b n f) (hb : Below w.heap.size w w') : MapI w' b n f := h.mod (Mod.none_ hb (fun _ => False)) id
theorem MapI.lt (h : MapI w b n f) : b < w.heap.size := by obtain ⟨D, h1, _⟩ := h; exact h1.lt
theorem MapI.lookup (h : MapI w b n f) {x : Int} (hx : inI x) : (Instr.lookup 54 (.map (some b)) (.int .i64 x) false).run Try.prog w = .ok (.int .i64 (f x)) w := by
  obtain ⟨D, h1, h2, h3⟩ := h
  obtain ⟨c, hrun, hat, _⟩ := h1.lookup_int (int_keyed Try.underlying3) Try.underlying54 Try.underlying3 (by rfl) (keyOf_int_mk Try.underlying3 (inI_wf hx))
  rw [h3 x hx] at hat
  injection hat with hat
  injection hat with _ hat
  rw [hat]; exact hrun
theorem MapI.put (h : MapI w b n f) {x y : Int} (hx : inI x) (hy : inI y) (hn : n < maxLen) : ∃ w', (Instr.mapUpdate 54 (.map (some b)) (.int .i64 x) (.int .i64 y)).run Try.prog w = .ok () w' ∧ MapI w' b (n + 1) (fun u => if u = x then y else f u) ∧ w.grownBy w' (some b) := by
  obtain ⟨D, h1, h2, h3⟩ := h
  obtain ⟨w', hrun, h4, h5⟩ := h1.update (int_keyed Try.underlying3) Try.underlying54 hn (keyOf_int_mk Try.underlying3 (inI_wf hx)) (plainElem_int Try.underlying3 (inI_wf hy))
  refine ⟨w', hrun, ⟨_, h4, h2.put _ _, fun u hu => ?_⟩, h5⟩
  by_cases e : u = x
  · subst e
    dsimp only
    rw [if_pos rfl]; exact atKey_put_same h2 (by trivial) _ _
  · dsimp only
    rw [if_neg e, ← h3 u hu]; exact atKey_put_other (by intro he; injection he with _ he; exact e he) _ _
end
theorem wpMapPut {w : World} {ops : Array Oper} {rest : List Oper} {o : Oper} {a : Act} {Q : Exit → Act → World → Prop}
    (hg : o.guard = none) (m x v : Operand) (hop : o.op = Op.mapUpdate 54 m x v) {b n : Nat} {f : Int → Int} (h : MapI w b n f) (hm : a.eval m = .map (some b)) (k y : Int) (hx : a.eval x = .int .i64 k) (hv : a.eval v = .int .i64 y) (hk : inI k) (hy : inI y) (hn : n < maxLen)
    (hK : ∀ w', MapI w' b (n + 1) (fun u => if u = k then y else f u) → Mod (fun i => i = b) w w' → wpList Try.prog ops Q rest (a.put o.dst undef) w') : wpList Try.prog ops Q (o :: rest) a w := by
  refine wpList_plain hg fun K' hK' => ?_
  obtain ⟨w', hrun, r1, r2⟩ := h.put hk hy hn
  unfold Oper.wp
  simp [execOp, hop, hm, hx, hv, hrun, Result.andThen]
  exact hK' _ _ (hK w' r1 ((Mod.grown r2).mono fun i _ e => by cases e; rfl))
/-- What the rows of a Bump are sorted by. -/
theorem cmp_any {w : World} {bx b n : Nat} {f : Int → Int} (hc : w.cell? ⟨bx, 0, none⟩ = some (.map (some b))) (hm : MapI w b n f) (x y : Int) (hx : inI x) (hy : inI y) (hfx : 0 ≤ f x ∧ f x ≤ 1048576) (hfy : 0 ≤ f y ∧ f y ≤ 1048576) :
    Calls Try.prog 26 #[.int .i64 x, .int .i64 y, .pointer (some ⟨bx, 0, none⟩)] w fun e w' => e = .returned (.int .i64 (f x - f y)) ∧ w = w' := by
  have h1 := hm.lookup hx
  have h2 := hm.lookup hy
  have e1 : IntKind.i64.wrap (f x - f y) = f x - f y := IntWalk.i64_in _ (by omega)
  clear hm
  generalize f x = u at *
  generalize f y = v at *
  go_enter Try.func26, Try.ntmps26
  go_wp2
  go_ret
  exact ⟨rfl, rfl⟩
end Go.Proofs.Ytgldhnjbodmbbaa.Qu
