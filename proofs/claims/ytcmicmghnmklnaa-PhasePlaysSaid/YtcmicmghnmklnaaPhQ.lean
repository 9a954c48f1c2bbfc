/- Contracts of package phase in one word (At), for calls in a row; the calls of a nil store. -/
import Derived.Test.YtcmicmghnmklnaaPhM
import Derived.Test.YtcmicmghnmklnaaPhO
namespace Go.Proofs.Ytcmicmghnmklnaa.Ph
open Go.RowKit Go.Proofs.Ytcmicmghnmklnaa.Mem Go.Proofs.Ytcmicmghnmklnaa.Sl Go.Shelf
set_option linter.unusedVariables false

/-- At g a store that is m; all of it is new since w0. -/
def At (g : Nat) (m : PM) (w0 w : World) : Prop := ∃ p, Ph w w0.heap.size g p ∧ p.abs = m ∧ Below w0.heap.size w0 w
theorem At.bel {g : Nat} {m : PM} {w0 w : World} (h : At g m w0 w) : Below w0.heap.size w0 w := by obtain ⟨p, _, _, h⟩ := h; exact h
theorem At.lt {g : Nat} {m : PM} {w0 w : World} (h : At g m w0 w) : g < w.heap.size := by obtain ⟨p, h, _, _⟩ := h; exact h.blk.lt
theorem At.below {g : Nat} {m : PM} {w0 w w' : World} (h : At g m w0 w) (hb : Below w.heap.size w w') : At g m w0 w' := by
  obtain ⟨p, h1, h2, h3⟩ := h
  exact ⟨p, h1.below hb, h2, below_then h3 hb h3.size⟩
theorem At.alloc {g : Nat} {m : PM} {w0 w : World} (h : At g m w0 w) (o : Obj) : At g m w0 (w.alloc o) := h.below ((Below.refl _ _).alloc (Nat.le_refl _) o)
theorem Mod.to_bel {B g s : Nat} {w w' : World} (hm : Mod (Two g s) w w') (h1 : B ≤ g) (h2 : B ≤ s) (hB : B ≤ w.heap.size) : Below B w w' := hm.below (fun i _ e => by
  rcases e with rfl | rfl
  · exact h1
  · exact h2) hB
theorem new_at (n : Nat) (st : Bool) (seed : Int) (w0 w : World) (hn : n ≤ 1000000) (h0 : 0 ≤ seed) (h1 : seed ≤ 18446744073709551615) (hb : Below w0.heap.size w0 w) :
    Calls Try.prog 10 #[.int .i64 n, .bool st, .int .u64 seed] w fun e w' => ∃ g, e = .returned (.tuple #[.pointer (some ⟨g, 0, none⟩), .int .i64 0]) ∧ At g (newM n st seed) w0 w' ∧ w.heap.size ≤ g ∧ Below w.heap.size w w' :=
  (new_ok n st seed w hn h0 h1).mono fun e w' ⟨g, p, he, hp, hm, _, hb'⟩ => ⟨g, he, ⟨p, hp.lower hb.size, hm, below_then hb hb' hb.size⟩, hp.bg, hb'⟩
theorem decide_at {g : Nat} {m : PM} {w0 w : World} (h : At g m w0 w) (v : Int) :
    Calls Try.prog 12 #[.pointer (some ⟨g, 0, none⟩), .int .i64 v] w fun e w' => e = .returned (.tuple #[.bool (decA m v).1, .int .i64 (decA m v).2]) ∧ At g m w0 w' := by
  obtain ⟨p, h1, rfl, h3⟩ := h
  exact (decide_any h1 v).mono fun e w' ⟨he, hb⟩ => ⟨he, ⟨p, h1.below hb, rfl, below_then h3 hb h3.size⟩⟩
theorem decide_at2 {g : Nat} {m : PM} {w0 w : World} (h : At g m w0 w) (v : Int) (x : Bool) (r : Int) (hx : decA m v = (x, r)) :
    Calls Try.prog 12 #[.pointer (some ⟨g, 0, none⟩), .int .i64 v] w fun e w' => e = .returned (.tuple #[.bool x, .int .i64 r]) ∧ At g m w0 w' := by
  have := decide_at h v
  rw [hx] at this
  exact this
theorem save_at {g : Nat} {m : PM} {w0 w : World} (h : At g m w0 w) (l : List Int) (cs : Array Value) (hcs : cs = (l.map (Value.int .i32)).toArray) (n : Nat) (hn : n = l.length) (hm : n ≤ 1000) (r : Int) (hr : noE (mayB m.saved.length l) = r) :
    Calls Try.prog 16 #[.pointer (some ⟨g, 0, none⟩), .slice (some ⟨w.heap.size, 0, none⟩) n n] (w.alloc (.cells cs 35)) fun e w' => e = .returned (.int .i64 r) ∧ At g (saveM m l) w0 w' := by
  subst hcs hr
  obtain ⟨p, h1, rfl, h3⟩ := h
  have h4 := h1.below ((Below.refl _ w).alloc (Nat.le_refl _) (.cells (l.map (Value.int .i32)).toArray 35))
  refine (save_any h4 (some ⟨w.heap.size, 0, none⟩) n l n hn (by omega) (rd_new w 35 l) (fun _ b off e e' => by have := h1.row.lt; cases e; exact absurd e' (Nat.ne_of_gt this))).mono ?_
  rintro e w' ⟨p', rfl, k1, k2, k3, k4⟩
  exact ⟨rfl, ⟨p', k1, k2, (h3.alloc h3.size _).trans (k4.below (fun i _ e => by rw [e]; exact h1.bs) (by rw [World.size_alloc]; have := h3.size; omega))⟩⟩
theorem reach_at {g : Nat} {m : PM} {w0 w : World} (h : At g m w0 w) (l : List Int) (cs : Array Value) (hcs : cs = (l.map (Value.int .i32)).toArray) (n : Nat) (hn : n = l.length) (hm : n ≤ 1000) (a b : Bool) (r : Int)
    (ha : (mayB m.saved.length l && decide (m.tn < l.length)) = a) (hb : (mayB m.saved.length l && decide (m.bn < l.length)) = b) (hr : noE (mayB m.saved.length l) = r) :
    Calls Try.prog 11 #[.pointer (some ⟨g, 0, none⟩), .slice (some ⟨w.heap.size, 0, none⟩) n n] (w.alloc (.cells cs 35)) fun e w' => e = .returned (.tuple #[.bool a, .bool b, .int .i64 r]) ∧ At g (reachM m l) w0 w' := by
  subst hcs ha hb hr
  obtain ⟨p, h1, rfl, h3⟩ := h
  have h4 := h1.below ((Below.refl _ w).alloc (Nat.le_refl _) (.cells (l.map (Value.int .i32)).toArray 35))
  refine (reach_any h4 (by rw [World.size_alloc]; have := h3.size; omega) (some ⟨w.heap.size, 0, none⟩) n l n hn (by omega) (rd_new w 35 l) (fun _ b off e e' => by have := h1.blk.lt; cases e; exact absurd e' (Nat.ne_of_gt this))).mono ?_
  rintro e w' ⟨p', rfl, k1, k2, k3, k4⟩
  exact ⟨rfl, ⟨p', k1, k2, (h3.alloc h3.size _).trans (k4.below (fun i _ e => by rw [e]; exact h1.bg) (by rw [World.size_alloc]; have := h3.size; omega))⟩⟩
theorem turn_at {g : Nat} {m : PM} {w0 w : World} (h : At g m w0 w) (ht : m.turned ≤ 4611686018427387904) (k : Int) (hk : kindN m.turned = k) :
    Calls Try.prog 14 #[.pointer (some ⟨g, 0, none⟩)] w fun e w' => e = .returned (.tuple #[.int .u8 k, .int .i64 0]) ∧ At g (turnM m) w0 w' ∧ ∀ b t cs, Blk w b t cs → t ≠ 62 → t ≠ 4 → Blk w' b t cs := by
  subst hk
  obtain ⟨p, h1, rfl, h3⟩ := h
  refine (turn_ok h1 h3.size h1.gs ht).mono ?_
  rintro e w' ⟨p', rfl, k1, k2, k3, k4⟩
  exact ⟨rfl, ⟨p', k1, k2, h3.trans (Mod.to_bel k4 h1.bg h1.bs h3.size)⟩, fun b t cs hb n1 n2 => hb.mod k4 (fun e => by
    rcases e with e | e
    · exact hb.ne_ h1.blk n1 e
    · exact h1.row.ne_blk hb (Ne.symm n2) e.symm)⟩
theorem draw_at {g : Nat} {m : PM} {w0 w : World} (h : At g m w0 w) (x : Nat) (hx : nextN m.state.toNat = x) :
    Calls Try.prog 17 #[.pointer (some ⟨g, 0, none⟩)] w fun e w' => e = .returned (.int .u64 (x : Nat)) ∧ At g (drawM m) w0 w' ∧ ∀ g' m', At g' m' w0 w → g' ≠ g → At g' m' w0 w' := by
  subst hx
  obtain ⟨p, h1, rfl, h3⟩ := h
  refine (draw_ok h1).mono ?_
  rintro e w' ⟨rfl, k1, k2⟩
  have hb := h3.trans (k2.below (fun i _ e => by rw [e]; exact h1.bg) h3.size)
  exact ⟨rfl, ⟨_, k1, rfl, hb⟩, fun g' m' ⟨q, l1, l2, _⟩ hne => ⟨q, l1.mod k2 hne (fun e => l1.row.ne_blk h1.blk (by decide) e) (fun i cs hc e => h1.ne_i8 hc e), l2, hb⟩⟩
theorem saved_at {g : Nat} {m : PM} {w0 w : World} (h : At g m w0 w) (n : Nat) (hn : m.saved.length = n) :
    Calls Try.prog 15 #[.pointer (some ⟨g, 0, none⟩)] w fun e w' => ∃ g2 cap, e = .returned (.slice (some ⟨g2, 0, none⟩) n cap) ∧ Row w' g2 4 (m.saved.map Value.bool) cap ∧ At g m w0 w' := by
  subst hn
  obtain ⟨p, h1, rfl, h3⟩ := h
  refine (saved_ok h1).mono ?_
  rintro e w' ⟨g2, cap, rfl, _, k2, k3⟩
  exact ⟨g2, cap, rfl, k2, ⟨p, h1.below k3, rfl, below_then h3 k3 h3.size⟩⟩
theorem reach_nil (w : World) : Calls Try.prog 11 #[.pointer none, .slice none 0 0] w fun e w' => e = .returned (.tuple #[.bool false, .bool false, .int .i64 1]) ∧ Below w.heap.size w w' := by
  go_enter Try.func11, Try.ntmps11
  go_wp2
  go_ret3
  exact ⟨rfl, ((Below.refl _ _).alloc (Nat.le_refl _) _).alloc (by simp) _⟩
theorem save_nil (w : World) : Calls Try.prog 16 #[.pointer none, .slice none 0 0] w fun e w' => e = .returned (.int .i64 1) ∧ w = w' := by
  go_enter Try.func16, Try.ntmps16
  go_wp2
  go_ret
  exact ⟨rfl, rfl⟩
theorem saved_nil (w : World) : Calls Try.prog 15 #[.pointer none] w fun e w' => e = .returned (.slice none 0 0) ∧ w = w' := by
  go_enter Try.func15, Try.ntmps15
  go_wp2
  go_ret
  exact ⟨rfl, rfl⟩
theorem copy_nil (w : World) : Calls Try.prog 19 #[.pointer none] w fun e w' => e = .returned (.pointer none) ∧ w = w' := by
  go_enter Try.func19, Try.ntmps19
  go_wp2
  go_ret
  exact ⟨rfl, rfl⟩
end Go.Proofs.Ytcmicmghnmklnaa.Ph
