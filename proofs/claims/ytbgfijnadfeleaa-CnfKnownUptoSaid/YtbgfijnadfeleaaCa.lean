/- Append to a clause of one's own, in this claim's words; the document's 'before'. Conditions: the memory, at most two million literals. -/
import Derived.Test.YtbgfijnadfeleaaCm
import Derived.Test.YtbgfijnadfeleaaCp
namespace Go.Proofs.Ytbgfijnadfeleaa.Ca
open Go.RowKit Go.Proofs.Ytbgfijnadfeleaa.Mem Go.Proofs.Ytbgfijnadfeleaa.Sl Go.Proofs.Ytbgfijnadfeleaa.Cl Go.Proofs.Ytbgfijnadfeleaa.App Go.Proofs.Ytbgfijnadfeleaa.Cm Go.Shelf
open Go.Proofs.Ytbgfijnadfeleaa.Cp (ltL)
set_option linter.unusedVariables false

theorem wpApp {w : World} {ops : Array Oper} {rest : List Oper} {o : Oper} {a : Act} {Q : Exit → Act → World → Prop} (hgd : o.guard = none) (s x : Operand)
    (ho : o.op = .call { callee := .builtin .append, args := #[s, x], argTypes := #[23, 23] })
    (base : Nat) (A : Option Addr) (n c : Nat) (xs : List Int) (hs : a.eval s = .slice A n c) (hown : Own w base 27 A n c (LI xs))
    (A2 : Option Addr) (m c2 : Nat) (news : List Int) (hx : a.eval x = .slice A2 m c2) (hl : m = news.length) (hr : RdV w A2 (LI news)) (hnil : A2 = none → c2 = 0)
    (h63 : n + m ≤ 4000000) (hbase : base ≤ w.heap.size) (r : Nat) (hrr : n + m = r)
    (h : ∀ A' c' w', Own w' base 27 A' r c' (LI (xs ++ news)) → Below base w w' → w.grownBy w' (Value.slice A n c).ownBlock → wpList Try.prog ops Q rest (a.put o.dst (.slice A' r c')) w') : wpList Try.prog ops Q (o :: rest) a w := by
  subst hrr
  obtain ⟨i0, hi⟩ := Option.isSome_iff_exists.1 (show (Try.prog.info? 27).isSome = true by kernel_rfl)
  have hz : (Try.prog.info? 27).map (fun i => (i.zero, i.size, i.bytes)) = some (some (.int .i32 0), 1, 4) := by kernel_rfl
  rw [hi] at hz
  injection hz with hz
  injection hz with hz0 hz
  injection hz with hz1 hz2
  refine wpList_app hgd s x 23 ho base 27 i0 (.int .i32 0) 4 Try.underlying23 hi hz0 hz1 hz2 rfl (.slice A n c) n (LI xs) hs hown.own A2 m c2 (LI news) hx (by simpa [LI] using hl) hr hnil one_LI (by unfold maxLen; omega) (by omega) hbase (fun v' w' h1 h2 => ?_)
  obtain ⟨A', c', rfl, hO⟩ := Own.of h1
  exact h A' c' w' (by rw [LI, List.map_append]; exact hO) ((Mod.grown h2).below (fun i _ e => hown.block e) hbase) h2
theorem before_any (x y : Int) (hx : -2147483648 ≤ x ∧ x ≤ 2147483647) (hy : -2147483648 ≤ y ∧ y ≤ 2147483647) (w : World) :
    Calls Try.prog 40 #[.int .i32 x, .int .i32 y] w fun e w' => e = .returned (.bool (ltL x y)) ∧ w = w' := by
  have h1 := Lib.hid (rVar_any x hx.1 hx.2 w)
  have h2 := Lib.hid (rVar_any y hy.1 hy.2 w)
  have HE := Lib.hid (show ltL x y = decide (varI x < varI y ∨ (varI x = varI y ∧ x < y)) from rfl)
  clear hx hy
  generalize ltL x y = r at *
  generalize varI x = a at *
  generalize varI y = b at *
  by_cases p : a < b
  · have HR := Lib.hid (show r = true by rw [HE.out]; simp [p])
    go_enter Try.func40, Try.ntmps40
    go_wp2_with fail
    refine h1.out.mono ?_
    rintro e w1 ⟨rfl, rfl⟩
    go_wp2_with fail
    refine h2.out.mono ?_
    rintro e w1 ⟨rfl, rfl⟩
    go_wp2
    go_ret
    exact ⟨by rw [HR.out]; rfl, rfl⟩
  · by_cases q : a = b
    · have HR := Lib.hid (show r = decide (x < y) by rw [HE.out]; simp [q])
      subst q
      go_enter Try.func40, Try.ntmps40
      go_wp2_with fail
      refine h1.out.mono ?_
      rintro e w1 ⟨rfl, rfl⟩
      go_wp2_with fail
      refine h2.out.mono ?_
      rintro e w1 ⟨rfl, rfl⟩
      go_wp2_with fail
      refine h1.out.mono ?_
      rintro e w1 ⟨rfl, rfl⟩
      go_wp2_with fail
      refine h2.out.mono ?_
      rintro e w1 ⟨rfl, rfl⟩
      go_wp2
      go_ret
      exact ⟨by rw [HR.out]; rfl, rfl⟩
    · have HR := Lib.hid (show r = false by rw [HE.out]; simp [p, q])
      go_enter Try.func40, Try.ntmps40
      go_wp2_with fail
      refine h1.out.mono ?_
      rintro e w1 ⟨rfl, rfl⟩
      go_wp2_with fail
      refine h2.out.mono ?_
      rintro e w1 ⟨rfl, rfl⟩
      go_wp2_with fail
      refine h1.out.mono ?_
      rintro e w1 ⟨rfl, rfl⟩
      go_wp2_with fail
      refine h2.out.mono ?_
      rintro e w1 ⟨rfl, rfl⟩
      go_wp2
      go_ret
      exact ⟨by rw [HR.out]; first | rfl | simp_all, rfl⟩
/-- The places ahead of x in a row. -/
theorem split_at {x : Int} {out : List Int} {j : Nat} (hj : j ≤ out.length) (h1 : ∀ i, (h : i < j) → ltL (out[i]'(by omega)) x = true) (h2 : ∀ (h : j < out.length), ltL out[j] x = false) :
    Cp.ins x out = out.take j ++ ([x] ++ out.drop j) := by
  have e : ∀ (l : List Int) (j : Nat), j ≤ l.length → (∀ i, (h : i < l.length) → i < j → ltL l[i] x = true) → (∀ (h : j < l.length), ltL l[j] x = false) → l.takeWhile (fun y => ltL y x) = l.take j ∧ l.dropWhile (fun y => ltL y x) = l.drop j := by
    intro l
    induction l with
    | nil => intro j hj _ _; simp
    | cons a l ih =>
      intro j hj p1 p2
      cases j with
      | zero =>
        have := p2 (by simp)
        simp only [List.getElem_cons_zero] at this
        simp [this]
      | succ j =>
        have h0 := p1 0 (by simp) (by omega)
        simp only [List.getElem_cons_zero] at h0
        have := ih j (by simpa using hj) (fun i h hi => p1 (i + 1) (Nat.succ_lt_succ h) (by omega)) (fun h => p2 (Nat.succ_lt_succ h))
        simp [h0, this.1, this.2]
  obtain ⟨e1, e2⟩ := e out j hj (fun i h hi => h1 i hi) h2
  unfold Cp.ins
  rw [e1, e2]
  rfl
end Go.Proofs.Ytbgfijnadfeleaa.Ca
