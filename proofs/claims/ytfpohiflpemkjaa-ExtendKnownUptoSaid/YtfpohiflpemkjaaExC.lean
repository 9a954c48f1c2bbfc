/- slices.Clone of a model; the closure of Extend that finds literals without a value. -/
import Derived.Test.YtfpohiflpemkjaaExR
import Derived.Lib.SliceRun
namespace Go.Proofs.Ytfpohiflpemkjaa.Ex
open Go.RowKit Go.Proofs.Ytfpohiflpemkjaa.Mem Go.Proofs.Ytfpohiflpemkjaa.Sl Go.Proofs.Ytfpohiflpemkjaa.Cl Go.Proofs.Ytfpohiflpemkjaa.App Go.Shelf
open Go.Proofs.Ytfpohiflpemkjaa.FnL (Pred enc_at below_then)
set_option linter.unusedVariables false

theorem clone_any {B : Nat} {w : World} (hB : B ≤ w.heap.size) (a : Option Addr) (n c : Nat) (m : List Bool) (hm : MdOk B w a n m) (hnil : a = none → c = 0) (hmn : n ≤ 1000000) :
    Calls Try.prog 35 #[.slice a n c] w fun e w' => ∃ A c', e = .returned (.slice A n c') ∧ OwnM w' w.heap.size A n c' m ∧ Below w.heap.size w w' := by
  have HM := Lib.hid hm
  have HS := Lib.hid hB
  rcases a with _ | ad
  · have hc := hnil rfl
    have hl : m = [] := by
      rcases m with _ | ⟨y, ys⟩
      · rfl
      · obtain ⟨b, off, e, _⟩ := hm.rd (by simp)
        cases e
    have hn : n = 0 := by rw [hm.ln, hl]; rfl
    subst hc hl hn
    have he1 := fun (W : World) (A : Option Addr) (n c : Nat) => Lib.run_eql_slice_nil (P := Try.prog) W 23 4 A n c 0 0 Try.underlying23
    go_enter Try.func35, Try.ntmps35
    go_wp2
    go_ret
    exact ⟨none, 0, rfl, Own.nil _ _ _, Below.refl _ _⟩
  · obtain ⟨i0, hi⟩ := Option.isSome_iff_exists.1 (show (Try.prog.info? 4).isSome = true by kernel_rfl)
    have hz : (Try.prog.info? 4).map (fun i => (i.zero, i.size, i.bytes)) = some (some (.bool false), 1, 1) := by kernel_rfl
    rw [hi] at hz
    injection hz with hz
    injection hz with hz0 hz
    injection hz with hz1 hz2
    have he1 := fun (W : World) (A : Option Addr) (n c : Nat) => Lib.run_eql_slice_nil (P := Try.prog) W 23 4 A n c 0 0 Try.underlying23
    clear hm hnil
    go_enter Try.func35, Try.ntmps35
    have HW := Lib.hid (show Below w.heap.size w (w.alloc (.cells #[] 4)) from (Below.refl _ _).alloc (Nat.le_refl _) _)
    have HOW := Lib.hid fun (v' : Value) (w2 : World) (hown : w2.ownsRow w.heap.size 4 1 v' (0 + n) ([] ++ m.map Value.bool)) => Own.of (by rwa [Nat.zero_add, List.nil_append] at hown)
    go_wp2_with (at_builtin; refine wpList_app rfl _ _ 23 rfl w.heap.size 4 i0 (.bool false) 1 Try.underlying23 hi hz0 hz1 hz2 rfl (.slice (some ⟨w.heap.size, 0, none⟩) 0 0) 0 [] rfl ((Row.new w 4 []).own (Nat.le_refl _) (by decide) rfl) (some ad) n c (m.map Value.bool) rfl (by simpa using HM.out.ln) ((HM.out.below (HW.out.mono HS.out)).rd.rd (by have := HS.out; simp; omega)) (fun h => by cases h) (fun u hu => by obtain ⟨x, _, rfl⟩ := List.mem_map.1 hu; rfl) (by unfold maxLen; omega) (by omega) (by simp) ?_; intro v' w2 hown hgrow; obtain ⟨A, c', rfl, hO⟩ := HOW.out v' w2 hown; have HO := Lib.hid hO; have HB := Lib.hid (show Below w.heap.size w w2 from HW.out.trans ((Mod.grown hgrow).below (fun i _ e => by cases e; exact Nat.le_refl _) (by simp))); clear hown hgrow hO)
    go_ret
    exact ⟨A, c', rfl, HO.out, HB.out⟩
theorem none_any {B : Nat} {w : World} (x : Int) (h0 : -2147483648 ≤ x) (h1 : x ≤ 2147483647) (g : Nat) (a : Option Addr) (n c : Nat) (hn : n ≤ 9223372036854775807) (hc : w.cell? ⟨g, 0, none⟩ = some (.slice a n c)) :
    Calls Try.prog 32 #[.int .i32 x, .pointer (some ⟨g, 0, none⟩)] w fun e w' => e = .returned (.bool (x == 0 || decide (n < varI x))) ∧ Below w.heap.size w w' := by
  have HC := Lib.hid (fun W => Var_any x h0 h1 W)
  by_cases hx : x = 0
  · subst hx
    go_enter Try.func32, Try.ntmps32
    go_wp2_with fail
    go_region
    all_goals go_wp2
    all_goals go_ret
    all_goals exact ⟨rfl, (Below.refl _ _).drew⟩
  · have hx' : (x == 0) = false := by simpa using hx
    have HE := Lib.hid (show (x == 0 || decide ((n : Int) < varI x)) = decide ((n : Int) < varI x) by rw [hx']; rfl)
    rw [HE.out]
    clear hx
    generalize varI x = v at *
    go_enter Try.func32, Try.ntmps32
    go_wp2_with fail
    go_quiet ((go_at_call 33; exact qs (HC.out _) ⟨_, rfl⟩))
    go_wp2
    go_ret
    exact ⟨rfl, belowN (Below.refl _ _) _⟩
end Go.Proofs.Ytfpohiflpemkjaa.Ex
