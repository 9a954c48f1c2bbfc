/- slices.Clone and slices.Clip of a clause; rows of one's own behind the shelf's words. Conditions: the memory, at most a million literals. -/
import Derived.Test.YtbgfijnadfeleaaApp
import Derived.Test.YtbgfijnadfeleaaCl
import Derived.Lib.SliceRun
import Derived.Lib.OwnBridge
import Derived.Sort.Grow
namespace Go.Proofs.Ytbgfijnadfeleaa.Cm
open Go.RowKit Go.Proofs.Ytbgfijnadfeleaa.Mem Go.Proofs.Ytbgfijnadfeleaa.Sl Go.Proofs.Ytbgfijnadfeleaa.Cl Go.Proofs.Ytbgfijnadfeleaa.App Go.Shelf
open Go.Sort (putRow Holds mapBlock onCells grow heap_grow_old)
open Go.Proofs.Ytbgfijnadfeleaa.FnL (Pred enc_at below_then)
set_option linter.unusedVariables false

def LI (l : List Int) : List Value := l.map (Value.int .i32)
theorem one_LI {l : List Int} : ∀ u ∈ LI l, u.oneCell' = true := fun u hu => by
  obtain ⟨x, _, rfl⟩ := List.mem_map.1 hu; rfl
theorem clone_any {w : World} (a : Option Addr) (n c : Nat) (l : List Int) (hn : n = l.length) (hr : RdV w a (LI l)) (hmn : n ≤ 1000000) :
    Calls Try.prog 34 #[.slice a n c] w fun e w' => ∃ A c', e = .returned (.slice A n c') ∧ Own w' w.heap.size 27 A n c' (LI l) ∧ Below w.heap.size w w' := by
  rcases a with _ | ad
  · have hl : l = [] := by
      rcases l with _ | ⟨y, ys⟩
      · rfl
      · obtain ⟨b, off, e, _⟩ := hr (by simp [LI])
        cases e
    subst hl
    have hn0 : n = 0 := hn
    clear hn hr hmn
    subst hn0
    have he1 := fun (W : World) (A : Option Addr) (n c : Nat) => Lib.run_eql_slice_nil (P := Try.prog) W 23 27 A n c 0 0 Try.underlying23
    go_enter Try.func34, Try.ntmps34
    go_wp2
    go_ret
    exact ⟨none, 0, rfl, Own.nil _ _ _, Below.refl _ _⟩
  · obtain ⟨i0, hi⟩ := Option.isSome_iff_exists.1 (show (Try.prog.info? 27).isSome = true by kernel_rfl)
    have hz : (Try.prog.info? 27).map (fun i => (i.zero, i.size, i.bytes)) = some (some (.int .i32 0), 1, 4) := by kernel_rfl
    rw [hi] at hz
    injection hz with hz
    injection hz with hz0 hz
    injection hz with hz1 hz2
    have he1 := fun (W : World) (A : Option Addr) (n c : Nat) => Lib.run_eql_slice_nil (P := Try.prog) W 23 27 A n c 0 0 Try.underlying23
    have HR := Lib.hid hr
    have HN := Lib.hid hn
    clear hr hn
    go_enter Try.func34, Try.ntmps34
    have HW := Lib.hid (show Below w.heap.size w (w.alloc (.cells #[] 27)) from (Below.refl _ _).alloc (Nat.le_refl _) _)
    have HOW := Lib.hid fun (v' : Value) (w2 : World) (hown : w2.ownsRow w.heap.size 27 1 v' (0 + n) ([] ++ LI l)) => Own.of (by rwa [Nat.zero_add, List.nil_append] at hown)
    go_wp2_with (at_builtin; refine wpList_app rfl _ _ 23 rfl w.heap.size 27 i0 (.int .i32 0) 4 Try.underlying23 hi hz0 hz1 hz2 rfl (.slice (some ⟨w.heap.size, 0, none⟩) 0 0) 0 [] rfl ((Row.new w 27 []).own (Nat.le_refl _) (by decide) rfl) (some ad) n c (LI l) rfl (by simpa [LI] using HN.out) (HR.out.below HW.out) (fun h => by cases h) one_LI (by unfold maxLen; omega) (by omega) (by simp) ?_; intro v' w2 hown hgrow; obtain ⟨A, c', rfl, hO⟩ := HOW.out v' w2 hown; have HO := Lib.hid hO; have HB := Lib.hid (show Below w.heap.size w w2 from HW.out.trans ((Mod.grown hgrow).below (fun i _ e => by cases e; exact Nat.le_refl _) (by simp))); clear hown hgrow hO)
    go_ret
    exact ⟨A, c', rfl, HO.out, HB.out⟩
/-- A slice whose cells the call owns, whatever lies behind them. -/
def Fro (w : World) (base : Nat) (A : Option Addr) (n : Nat) (xs : List Value) : Prop :=
  n = xs.length ∧ ((A = none ∧ xs = []) ∨ ∃ g, A = some ⟨g, 0, none⟩ ∧ base ≤ g ∧ ∃ t rest, Blk w g t (xs ++ rest).toArray)
section
variable {w w' : World} {base n c : Nat} {t : TypeId} {A : Option Addr} {xs : List Value}
theorem Fro.of (h : Own w base t A n c xs) : Fro w base A n xs := by
  obtain ⟨hn, ⟨h1, _, h3⟩ | ⟨g, h1, h2, h3, rest, h4, _⟩⟩ := h
  · exact ⟨hn, .inl ⟨h1, h3⟩⟩
  · exact ⟨hn, .inr ⟨g, h1, h2, t, rest, h4⟩⟩
theorem Fro.low {base' : Nat} (h : Fro w base A n xs) (hb : base' ≤ base) : Fro w base' A n xs := by
  obtain ⟨hn, h | ⟨g, h1, h2, h3⟩⟩ := h
  · exact ⟨hn, .inl h⟩
  · exact ⟨hn, .inr ⟨g, h1, by omega, h3⟩⟩
theorem Fro.mod {S : Nat → Prop} (h : Fro w base A n xs) (hm : Mod S w w') (hS : ∀ i, base ≤ i → A = some ⟨i, 0, none⟩ → ¬ S i) : Fro w' base A n xs := by
  obtain ⟨hn, h | ⟨g, h1, h2, t, rest, h3⟩⟩ := h
  · exact ⟨hn, .inl h⟩
  · exact ⟨hn, .inr ⟨g, h1, h2, t, rest, h3.mod hm (hS g h2 h1)⟩⟩
theorem Fro.below (h : Fro w base A n xs) (hb : Below w.heap.size w w') : Fro w' base A n xs := h.mod (Mod.none_ hb (fun _ => False)) (fun _ _ _ => id)
theorem Fro.rd (h : Fro w base A n xs) : RdV w A xs := by
  obtain ⟨hn, ⟨_, rfl⟩ | ⟨g, rfl, h2, t, rest, h3⟩⟩ := h
  · exact RdV.nil _ _
  · exact RdV.blk h3
theorem Fro.nil_n (h : Fro w base none n xs) : n = 0 := by
  obtain ⟨hn, ⟨_, rfl⟩ | ⟨g, h1, _⟩⟩ := h
  · exact hn
  · cases h1
theorem Fro.set_ {g : Nat} (h : Fro w base (some ⟨g, 0, none⟩) n xs) (k : Nat) (hk : k < n) (u : Value) : Fro (w.setCell ⟨g, k, none⟩ u) base (some ⟨g, 0, none⟩) n (xs.set k u) := by
  obtain ⟨hn, ⟨h1, _⟩ | ⟨g', h1, h2, t, rest, h3⟩⟩ := h
  · cases h1
  · cases h1
    refine ⟨by simpa using hn, .inr ⟨g, rfl, h2, t, rest, ?_⟩⟩
    have := h3.set_ k u
    simp only [List.setIfInBounds_toArray] at this
    rwa [List.set_append_left _ _ (by omega)] at this
theorem Fro.at_ {k : Nat} (h : Fro w base A n xs) (hk : k < n) : ∃ g, A = some ⟨g, 0, none⟩ ∧ base ≤ g ∧ g < w.heap.size ∧ w.frozen? ⟨g, k, none⟩ = false := by
  obtain ⟨hn, ⟨_, rfl⟩ | ⟨g', h1, h2, t, rest, h3⟩⟩ := h
  · simp at hn; omega
  · exact ⟨g', h1, h2, h3.lt, h3.frozen k⟩
/-- A row of one's own in the sort's words, and back. -/
theorem Own.holds {g : Nat} {l : List Int} (h : Own w base t (some ⟨g, 0, none⟩) n c (LI l)) : Holds (Value.int .i32) w g 0 l.toArray ∧ g < w.heap.size ∧ base ≤ g ∧ n ≤ c ∧ l.length = n := by
  obtain ⟨g', cap, e, h1, h2, h3, h4, h5, h6⟩ := Lib.holds_of_ownsRow (enc := Value.int .i32) (zs := l) h.own (by simp)
  cases e
  exact ⟨h6, h2, h1, h3, h5⟩
theorem Own.put {g q k : Nat} {l ys : List Int} (h : Own w base t (some ⟨g, 0, none⟩) n c (LI l)) (hy : ys.length = n) (hk : k ≤ n) :
    Own (putRow (Value.int .i32) (Sort.ahead w q) g 0 ys.toArray) base t (some ⟨g, 0, none⟩) k c (LI (ys.take k)) := by
  have h1 := Lib.ownsRow_putRow (enc := Value.int .i32) (q := q) (zs := l) h.own hy hk
  obtain ⟨A', c', e, h2⟩ := Own.of h1
  cases e
  exact h2
theorem put_mod {q g : Nat} {d : Array Int} (os : Array Obj) : Mod (fun i => i = g) w (grow (putRow (Value.int .i32) (Sort.ahead w q) g 0 d) os) :=
  ⟨rfl, rfl, rfl, by simp [grow, putRow, mapBlock, Sort.ahead], fun k hk hne => by
    rw [heap_grow_old _ _ (by simpa [putRow, mapBlock, Sort.ahead] using hk)]
    simp [putRow, mapBlock, Sort.ahead, Array.getElem?_modify, show g ≠ k from fun e => hne e.symm]⟩
theorem grow_below (os : Array Obj) : Below w.heap.size w (grow w os) :=
  ⟨rfl, rfl, rfl, by simp [grow], fun k hk => heap_grow_old _ _ hk⟩
end
theorem clip_any (base t : Nat) (a : Option Addr) (n c : Nat) (xs : List Value) (w : World) (h : Own w base t a n c xs) :
    Calls Try.prog 38 #[.slice a n c] w fun e w' => e = .returned (.slice a n n) ∧ w' = w := by
  obtain ⟨hn, ⟨rfl, rfl, rfl⟩ | ⟨g, rfl, h1, h2, h3⟩⟩ := h
  · have hn0 : n = 0 := hn
    clear hn
    subst hn0
    go_enter Try.func38, Try.ntmps38
    go_wp2
    go_ret
    exact ⟨rfl, rfl⟩
  · have h4 := h3.le
    have h5 : n ≤ c := by omega
    have h6 : n ≤ 9223372036854775807 := by unfold maxLen at h2; omega
    clear h3 h4 hn h2
    go_enter Try.func38, Try.ntmps38
    go_wp2
    go_ret
    exact ⟨by first | rfl | simp, rfl⟩
theorem compact_nil (w : World) : Calls Try.prog 37 #[.slice none 0 0] w fun e w' => e = .returned (.slice none 0 0) ∧ w' = w := by
  go_enter Try.func37, Try.ntmps37
  go_wp2
  go_ret
  exact ⟨rfl, rfl⟩
end Go.Proofs.Ytbgfijnadfeleaa.Cm
