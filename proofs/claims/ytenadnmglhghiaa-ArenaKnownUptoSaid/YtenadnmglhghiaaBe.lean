/- Arena: both side by side: what a call of the one, then of the other leaves. Conditions: the memory. -/
import Derived.Test.YtenadnmglhghiaaBd
namespace Go.Proofs.Ytenadnmglhghiaa.Ar
open Go.RowKit Go.Proofs.Ytenadnmglhghiaa.Mem Go.Proofs.Ytenadnmglhghiaa.Sl Go.Shelf
open Go.Proofs.Ytenadnmglhghiaa.FnL (enc_at below_then)
set_option linter.unusedVariables false

theorem AR.lt {w : World} {base : Nat} {q : AAd} {lim : Int} {its : List Itm} (h : AR w base q lim its) {i : Nat} (hi : mq q i) : i < w.heap.size := by
  rcases hi with rfl | rfl | e
  · exact h.blk.lt
  · exact h.mp.lt
  · exact Own.lt h.row e
/-- Both: the one tells its, the other itd (they are alike but between two calls); a block b beside them. -/
structure TwS (w : World) (B : Nat) (q : AAd) (S : Nat → Prop) (gd : Nat) (lim : Int) (its itd : List Itm) (b : Nat) (cs : Array Value) : Prop where
  a : AR w B q lim its
  d : RX w B S gd lim itd
  ap : ∀ i, S i → ¬ mq q i
  le : B ≤ w.heap.size
  bk : Blk w b 57 cs
  bq : ¬ mq q b
  bs : ¬ S b
section
variable {w w' : World} {B gd b : Nat} {q q' : AAd} {S : Nat → Prop} {lim : Int} {its its' itd itd' : List Itm} {cs : Array Value}
theorem TwS.below (h : TwS w B q S gd lim its itd b cs) (hb : Below w.heap.size w w') : TwS w' B q S gd lim its itd b cs :=
  ⟨h.a.below hb, h.d.below hb, h.ap, Nat.le_trans h.le hb.size, h.bk.below hb, h.bq, h.bs⟩
theorem TwS.low (h : TwS w B q S gd lim its itd b cs) (hb : Below w.heap.size w w') : Below B w w' := hb.mono h.le
theorem TwS.stepA (h : TwS w B q S gd lim its itd b cs) (h2 : AR w' B q' lim its') (hm : Mod (mq q) w w') (hq : ∀ i, mq q' i → mq q i ∨ w.heap.size ≤ i) : TwS w' B q' S gd lim its' itd b cs ∧ Below B w w' := by
  have hlt : ∀ i, S i → i < w.heap.size := fun i hi => (RX.lt h.d hi).2
  refine ⟨⟨h2, h.d.mod hm h.ap, fun i hi hi2 => ?_, Nat.le_trans h.le hm.size, h.bk.mod hm h.bq, fun hi => ?_, h.bs⟩, hm.below (fun i _ hi => h.a.lo hi) h.le⟩
  · rcases hq i hi2 with h3 | h3
    · exact h.ap i hi h3
    · have := hlt i hi; omega
  · rcases hq b hi with h3 | h3
    · exact h.bq h3
    · have := h.bk.lt; omega
theorem TwS.stepD (h : TwS w B q S gd lim its itd b cs) (hn : RN w w' B S gd lim itd') : TwS w' B q (newS S w w') gd lim its itd' b cs ∧ Below B w w' := by
  obtain ⟨h1, hm⟩ := hn
  refine ⟨⟨h.a.mod hm (fun hi => h.ap _ hi (.inl rfl)) (fun hi => h.ap _ hi (.inr (.inl rfl))) (fun i _ e hi => h.ap _ hi (.inr (.inr e))), h1, fun i hi hi2 => ?_, Nat.le_trans h.le hm.size, h.bk.mod hm h.bs, h.bq, fun hi => ?_⟩, hm.below (fun i _ hi => (RX.lt h.d hi).1) h.le⟩
  · rcases hi with hi | hi
    · exact h.ap i hi hi2
    · have := h.a.lt hi2; omega
  · rcases hi with hi | hi
    · exact h.bs hi
    · have := h.bk.lt; omega
/-- A block beside them is written. -/
theorem TwS.other (h : TwS w B q S gd lim its itd b cs) {g : Nat} (hm : Mod (fun i => i = g) w w') (hgB : B ≤ g) (h1 : ¬ mq q g) (h2 : ¬ S g) (h3 : b ≠ g) : TwS w' B q S gd lim its itd b cs ∧ Below B w w' :=
  ⟨⟨h.a.mod hm (fun e => h1 (.inl e.symm)) (fun e => h1 (.inr (.inl e.symm))) (fun i _ e e2 => h1 (.inr (.inr (by have e2 : i = g := e2; rw [← e2]; exact e)))), h.d.mod hm (fun i hi e => h2 (by have e : i = g := e; rw [← e]; exact hi)), h.ap, Nat.le_trans h.le hm.size, h.bk.mod hm h3, h.bq, h.bs⟩, hm.below (fun i _ e => by have e : i = g := e; rw [e]; exact hgB) h.le⟩
end
/-- Both, alike. -/
def Two (w : World) (B g gd : Nat) (lim : Int) (its : List Itm) : Prop := ∃ q S, q.g = g ∧ AR w B q lim its ∧ RX w B S gd lim its ∧ (∀ i, S i → ¬ mq q i) ∧ B ≤ w.heap.size
theorem Two.below {w w' : World} {B g gd : Nat} {lim : Int} {its : List Itm} (h : Two w B g gd lim its) (hb : Below w.heap.size w w') : Two w' B g gd lim its := by
  obtain ⟨q, S, h0, h1, h2, h3, h4⟩ := h
  exact ⟨q, S, h0, h1.below hb, h2.below hb, h3, Nat.le_trans h4 hb.size⟩
theorem TwS.two {w : World} {B gd b : Nat} {q : AAd} {S : Nat → Prop} {lim : Int} {its : List Itm} {cs : Array Value} (h : TwS w B q S gd lim its its b cs) : Two w B q.g gd lim its := ⟨q, S, rfl, h.a, h.d, h.ap, h.le⟩
/-- What a call of both leaves. -/
def OneR (w : World) (B g gd : Nat) (lim : Int) (its : List Itm) (e : Ending) (w' : World) : Prop :=
  e = .returned (.bool true) ∧ (∃ its', its'.length ≤ its.length + 1 ∧ Sm its' ∧ Two w' B g gd lim its') ∧ Below B w w'
section
variable {its : List Itm}
theorem sm_set {p : Nat} {y : Itm} (h : Sm its) (hy : y.l.length ≤ 1048576) : Sm (its.set p y) := fun x hx => by
  rcases List.mem_or_eq_of_mem_set hx with hx | rfl
  · exact h x hx
  · exact hy
theorem sm_kill (h : Sm its) (r : Int) : (killM its r).2.length ≤ its.length + 1 ∧ Sm (killM its r).2 := by
  unfold killM
  split
  · exact ⟨Nat.le_succ _, h⟩
  · exact ⟨by simp, sm_set h (h.get r)⟩
theorem sm_mark (h : Sm its) (r l u : Int) : (markM its r l u).2.length ≤ its.length + 1 ∧ Sm (markM its r l u).2 := by
  unfold markM
  split
  · exact ⟨Nat.le_succ _, h⟩
  · split
    · exact ⟨Nat.le_succ _, h⟩
    · exact ⟨by simp, sm_set h (h.get r)⟩
theorem sm_shrink (h : Sm its) (r n : Int) : (shrinkM its r n).2.length ≤ its.length + 1 ∧ Sm (shrinkM its r n).2 := by
  unfold shrinkM
  split
  · exact ⟨Nat.le_succ _, h⟩
  · split
    · exact ⟨Nat.le_succ _, h⟩
    · refine ⟨by simp, sm_set h ?_⟩
      show ((get its r).l.take n.toNat).length ≤ _
      rw [List.length_take]
      exact Nat.le_trans (Nat.min_le_right _ _) (h.get r)
theorem sm_swap (h : Sm its) (r i k : Int) : (swapM its r i k).2.length ≤ its.length + 1 ∧ Sm (swapM its r i k).2 := by
  unfold swapM
  split
  · exact ⟨Nat.le_succ _, h⟩
  · split
    · exact ⟨Nat.le_succ _, h⟩
    · refine ⟨by simp, sm_set h ?_⟩
      show (swapL (get its r).l i.toNat k.toNat).length ≤ _
      rw [swapL_len]
      exact h.get r
theorem sm_keep (h : Sm its) : (keep its).length ≤ its.length + 1 ∧ Sm (keep its) := by
  refine ⟨?_, fun x hx => ?_⟩
  · unfold keep
    rw [List.length_map]
    have := List.length_filter_le (fun x : Itm => !x.dead) its
    omega
  · obtain ⟨y, hy, _, rfl⟩ := keep_mem hx
    exact h y hy
theorem sm_put (h : Sm its) (lim id : Int) (l : List Int) (red : Bool) (lbd : Int) (hl : l.length ≤ 1048576) : (putM its lim id l red lbd).2.2.length ≤ its.length + 1 ∧ Sm (putM its lim id l red lbd).2.2 := by
  unfold putM
  split
  · exact ⟨Nat.le_succ _, h⟩
  · split
    · exact ⟨Nat.le_succ _, h⟩
    · split
      · exact ⟨Nat.le_succ _, h⟩
      · refine ⟨by simp, fun x hx => ?_⟩
        rcases List.mem_append.1 hx with hx | hx
        · exact h x hx
        · obtain rfl := List.mem_singleton.1 hx
          exact hl
end
section
variable {w : World} {base gd : Nat} {S : Nat → Prop} {lim : Int} {its : List Itm}
theorem RX.kill_any (h : RX w base S gd lim its) (hbw : base ≤ w.heap.size) (r : Int) : Calls Try.prog 35 #[.pointer (some ⟨gd, 0, none⟩), .int .i64 r] w fun e w' =>
    e = .returned (.int .i64 (killM its r).1) ∧ RN w w' base S gd lim (killM its r).2 := by
  obtain ⟨A, c, z, rfl, h⟩ := h; exact rkill_any h hbw r
theorem RX.mark_any (h : RX w base S gd lim its) (hbw : base ≤ w.heap.size) (r l u : Int) : Calls Try.prog 38 #[.pointer (some ⟨gd, 0, none⟩), .int .i64 r, .int .i64 l, .int .i64 u] w fun e w' =>
    e = .returned (.int .i64 (markM its r l u).1) ∧ RN w w' base S gd lim (markM its r l u).2 := by
  obtain ⟨A, c, z, rfl, h⟩ := h; exact rmark_any h hbw r l u
theorem RX.shrink_any (h : RX w base S gd lim its) (hbw : base ≤ w.heap.size) (r m : Int) (hm : inI m) : Calls Try.prog 36 #[.pointer (some ⟨gd, 0, none⟩), .int .i64 r, .int .i64 m] w fun e w' =>
    e = .returned (.int .i64 (shrinkM its r m).1) ∧ RN w w' base S gd lim (shrinkM its r m).2 := by
  obtain ⟨A, c, z, rfl, h⟩ := h; exact rshrink_any h hbw r m hm
theorem RX.swap_any (h : RX w base S gd lim its) (hbw : base ≤ w.heap.size) (r i k : Int) (hi : inI i) (hk : inI k) : Calls Try.prog 37 #[.pointer (some ⟨gd, 0, none⟩), .int .i64 r, .int .i64 i, .int .i64 k] w fun e w' =>
    e = .returned (.int .i64 (swapM its r i k).1) ∧ RN w w' base S gd lim (swapM its r i k).2 := by
  obtain ⟨A, c, z, rfl, h⟩ := h; exact rswap_any h hbw r i k hi hk
theorem RX.put_any (h : RX w base S gd lim its) (hbw : base ≤ w.heap.size) (id : Int) (hid : inI id) (A2 : Option Addr) (n2 c2 : Nat) (l : List Int) (hn : n2 = l.length) (hc2 : A2 = none → c2 = 0) (hr : RdV w A2 (LI l)) (hb : ∀ y, y ∈ l → -2147483648 ≤ y ∧ y ≤ 2147483647) (hmx : n2 ≤ 4000000) (red : Bool) (lbd : Int) (hl : inI lbd) :
    Calls Try.prog 40 #[.pointer (some ⟨gd, 0, none⟩), .int .i64 id, .slice A2 n2 c2, .bool red, .int .i64 lbd] w (RPutR w base S gd lim its id l red lbd) := by
  obtain ⟨A, c, z, rfl, h⟩ := h; exact rput_any h hbw id hid A2 n2 c2 l hn hc2 hr hb hmx red lbd hl
theorem RX.collect_any (h : RX w base S gd lim its) (hbw : base ≤ w.heap.size) : Calls Try.prog 39 #[.pointer (some ⟨gd, 0, none⟩)] w (RCollR w base S gd lim its) := by
  obtain ⟨A, c, z, rfl, h⟩ := h; exact rcollect_any h hbw
end
end Go.Proofs.Ytenadnmglhghiaa.Ar
