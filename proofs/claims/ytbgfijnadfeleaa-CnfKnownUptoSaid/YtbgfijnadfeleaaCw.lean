/- slices.DeleteFunc of a clause of one's own; cnf.without: what it answers. Conditions: the memory, at most a million literals. -/
import Derived.Test.YtbgfijnadfeleaaCs
namespace Go.Proofs.Ytbgfijnadfeleaa.Cw
open Go.RowKit Go.Proofs.Ytbgfijnadfeleaa.Mem Go.Proofs.Ytbgfijnadfeleaa.Sl Go.Proofs.Ytbgfijnadfeleaa.Cl Go.Proofs.Ytbgfijnadfeleaa.App Go.Proofs.Ytbgfijnadfeleaa.Cm Go.Shelf
open Go.Sort (putRow Holds grow)
open Go.Proofs.Ytbgfijnadfeleaa.FnL (Pred enc_at below_then)
set_option linter.unusedVariables false

def noL (l : List Int) (x : Int) : List Int := l.filter fun y => !decide (y = x)
theorem noL_len (l : List Int) (x : Int) : (noL l x).length ≤ l.length := List.length_filter_le _ _
theorem pred_all (x y : Int) (g : Nat) (W : World) (hc : W.cell? ⟨g, 0, none⟩ = some (.int .i32 x)) :
    Calls Try.prog 54 #[.int .i32 y, .pointer (some ⟨g, 0, none⟩)] W fun e w' => e = .returned (.bool (decide (y = x))) ∧ w' = W := by
  go_enter Try.func54, Try.ntmps54
  go_wp2
  go_ret
  exact ⟨by first | rfl | simp, rfl⟩
theorem delete_any {base : Nat} {A : Option Addr} {n c : Nat} {l : List Int} {w : World} (x : Int) (g0 : Nat) (hg0 : g0 < base) (hbs : base ≤ w.heap.size) (hc : w.cell? ⟨g0, 0, none⟩ = some (.int .i32 x)) (hO : Own w base 27 A n c (LI l)) (hn : n ≤ 1000000) :
    Calls Try.prog 53 #[.slice A n c, .func (.func 54) #[] #[.pointer (some ⟨g0, 0, none⟩)]] w fun e w' => e = .returned (.slice A (noL l x).length c) ∧ Own w' base 27 A (noL l x).length c (LI (noL l x)) ∧ Mem.Mod (fun i => A = some ⟨i, 0, none⟩) w w' := by
  have eg : ∀ args w, (callFunc 54 args).run Try.prog w = .ok (.enter 54 args) w := enters_of Try.func54 (by kernel_rfl) rfl
  rcases A with _ | ad
  · have hn0 : n = 0 ∧ c = 0 ∧ l = [] := by
      obtain ⟨h1, ⟨_, h2, h3⟩ | ⟨g, h2, _⟩⟩ := hO
      · have h4 : l = [] := by simpa [LI] using h3
        rw [h3] at h1
        exact ⟨h1, h2, h4⟩
      · cases h2
    obtain ⟨h1, h2, h3⟩ := hn0
    clear hO
    subst h1 h2 h3
    have HI := Lib.hid (FnL.indexFunc_any (Value.int .i32) none 0 54 #[.pointer (some ⟨g0, 0, none⟩)] (fun y => decide (y = x)) [] 0 rfl (by omega) w (RdV.nil _ _) ⟨eg, fun y hy => by cases hy⟩)
    clear eg hc
    go_enter Try.func53, Try.ntmps53
    go_wp2_with fail
    refine HI.out.mono ?_
    rintro e w1 ⟨rfl, hb1⟩
    have HB1 := Lib.hid hb1
    clear hb1
    have HF : FnL.firstAt (fun y => decide (y = x)) [] 0 = -1 := rfl
    rw [HF]
    clear HF
    go_wp2
    go_ret
    exact ⟨rfl, Own.nil _ _ _, Mem.Mod.none_ HB1.out _⟩
  · obtain ⟨g, hg⟩ : ∃ g, ad = ⟨g, 0, none⟩ := by
      obtain ⟨_, ⟨h, _⟩ | ⟨g, h, _⟩⟩ := hO
      · cases h
      · cases h; exact ⟨g, rfl⟩
    subst hg
    obtain ⟨hH, hblk, hbg, hnc, hln⟩ := Cm.Own.holds hO
    have hsz : l.toArray.size = n := by simpa using hln
    have hp : PredAt Try.prog 54 #[.pointer (some ⟨g0, 0, none⟩)] (Value.int .i32) (fun y => decide (y = x)) w := fun W y hb =>
      (pred_all x y g0 W ((hb.cell (p := ⟨g0, 0, none⟩) (by show g0 < _; omega)).trans hc)).mono fun e w' ⟨he, hw⟩ => ⟨he, 0, hw⟩
    have hpo : PredOver Try.prog 54 #[.pointer (some ⟨g0, 0, none⟩)] (Value.int .i32) (fun y => decide (y = x)) g 0 l.toArray.size w := fun k os dk y _ =>
      (pred_all x y g0 _ (by
        unfold sortWorld
        exact (World.cell?_of_block ((Cm.put_mod os).block g0 (by omega) (by omega))).trans hc)).mono fun e w' ⟨he, hw⟩ => ⟨he, 0, hw⟩
    have h0 := AnyE.slices_DeleteFunc Try.deleteL (Value.int .i32) (fun _ => rfl) (fun y => decide (y = x)) 54 #[.pointer (some ⟨g0, 0, none⟩)] eg 0 (by exact fun w => Try.zeroValue27 w) g 0 c l.toArray w hp hpo hH (by omega) (by omega)
    rw [hsz] at h0
    refine h0.mono ?_
    rintro e w' ⟨he, q, hw⟩
    have hk : (noL l x).length ≤ n := by have := noL_len l x; omega
    refine ⟨he, ?_, ?_⟩
    · have h1 := Cm.Own.put (q := q) hO (ys := noL l x ++ List.replicate (n - (noL l x).length) 0) (by simp; omega) hk
      rw [List.take_append_of_le_length (Nat.le_refl _), List.take_length] at h1
      rw [hw]
      exact h1
    · rw [hw]
      have := Cm.put_mod (w := w) (q := q) (g := g) (d := (noL l x ++ List.replicate (n - (noL l x).length) 0).toArray) #[]
      rw [Go.Sort.grow_empty] at this
      exact this.mono fun i _ h => by rw [h]
theorem without_any {w : World} (a : Option Addr) (n c : Nat) (l : List Int) (x : Int) (hn : n = l.length) (hr : RdV w a (LI l)) (hmn : n ≤ 1000000) :
    Calls Try.prog 42 #[.slice a n c, .int .i32 x] w fun e w' => ∃ A c', e = .returned (.slice A (noL l x).length c') ∧ Own w' w.heap.size 27 A (noL l x).length c' (LI (noL l x)) ∧ Below w.heap.size w w' := by
  have HC := Lib.hid (clone_any (w := w.alloc (.cells #[.int .i32 x] 27)) a n c l hn (hr.below ((Below.refl _ _).alloc (Nat.le_refl _) _)) hmn)
  have HBA := Lib.hid (show Below w.heap.size w (w.alloc (.cells #[.int .i32 x] 27)) from (Below.refl _ _).alloc (Nat.le_refl _) _)
  have HCE := Lib.hid (show (w.alloc (.cells #[.int .i32 x] 27)).cell? ⟨w.heap.size, 0, none⟩ = some (.int .i32 x) by simp)
  have HSZ := Lib.hid (show (w.alloc (.cells #[.int .i32 x] 27)).heap.size = w.heap.size + 1 by simp)
  clear hr hn
  go_enter Try.func42, Try.ntmps42
  go_wp2_with fail
  refine HC.out.mono ?_
  rintro e w1 ⟨A, c', rfl, hO, hb1⟩
  have HD := Lib.hid (delete_any x w.heap.size (by have := HSZ.out; omega) hb1.size ((hb1.cell (p := ⟨w.heap.size, 0, none⟩) (by have := HSZ.out; show w.heap.size < _; omega)).trans HCE.out) hO hmn)
  have HO := Lib.hid hO
  have HB1 := Lib.hid (below_then HBA.out hb1 HBA.out.size)
  clear hO hb1 HC
  go_wp2_with fail
  refine HD.out.mono ?_
  rintro e w2 ⟨rfl, hO2, hm⟩
  have HO2 := Lib.hid hO2
  have HB2 := Lib.hid (show Below w.heap.size w w2 from Mem.Below.then_mod HB1.out hm (fun i hi h => by
    have := HO.out.block (i := i) (by rw [h]; rfl); have := HSZ.out; omega) (Nat.le_refl _))
  clear hO2 hm
  go_wp2
  go_ret
  exact ⟨A, c', rfl, HO2.out.low (by have := HSZ.out; omega), HB2.out⟩
end Go.Proofs.Ytbgfijnadfeleaa.Cw
