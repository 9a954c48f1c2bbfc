/- The document's store in memory, in the words of PM; the walks of Draw, Kind, Decide. -/
import Derived.Test.YtcmicmghnmklnaaPhT
namespace Go.Proofs.Ytcmicmghnmklnaa.Ph
open Go.RowKit Go.Proofs.Ytcmicmghnmklnaa.Mem Go.Proofs.Ytcmicmghnmklnaa.Sl Go.Shelf
set_option linter.unusedVariables false

theorem rowOf_ofI {N : Nat} {l : List Int} (hf : Fits N l) {v : Nat} (hv0 : 1 ≤ v) (hv1 : v ≤ N) : ∀ k, k ≤ l.length → (rowOf (l.take k) N).getD (v - 1) 0 = ofI v (l.take k) := by
  intro k
  induction k with
  | zero => intro _; simp [rowOf, ofI, List.getD_eq_getElem?_getD, List.getElem?_replicate]; split <;> simp
  | succ k ih =>
    intro hk
    obtain ⟨f0, f1, f2⟩ := hf k (by omega)
    rw [rowOf_snoc l N k (by omega), put_getD (rowOf_len _ _) f0 f1 f2 hv0 hv1, ih (by omega), ofI_snoc v l k (by omega)]
    by_cases h1 : l.getD k 0 = v
    · rw [if_pos (.inl h1), if_pos h1, if_pos (by omega)]
    · rw [if_neg h1]
      by_cases h2 : l.getD k 0 = -(v : Int)
      · rw [if_pos (.inr h2), if_pos h2, if_neg (by omega)]
      · rw [if_neg h2, if_neg (by omega)]
structure RV where
  vA : Option Addr
  vc : Nat
  tA : Option Addr
  tc : Nat
  tL : List Int
  bA : Option Addr
  bc : Nat
  bL : List Int
def LitI (w : World) (B : Nat) (A : Option Addr) (L : List Int) (c : Nat) : Prop := (A = none ∧ L = [] ∧ c = 0) ∨ ∃ g, A = some ⟨g, 0, none⟩ ∧ B ≤ g ∧ Row w g 35 (L.map (Value.int .i32)) c
def ValI (w : World) (B : Nat) (A : Option Addr) (s : List Bool) (c : Nat) : Prop := (A = none ∧ s = [] ∧ c = 0) ∨ ∃ g, A = some ⟨g, 0, none⟩ ∧ B ≤ g ∧ Row w g 4 (s.map Value.bool) c
def RfC (m : PM) (r : RV) : Array Value := #[.slice r.vA m.saved.length r.vc, .bool m.start, .int .i64 m.tn, .slice r.tA r.tL.length r.tc, .int .i64 m.bn, .slice r.bA r.bL.length r.bc, .int .u64 m.state, .int .i64 m.turned]
/-- At g stands a store of the document's that is m. -/
structure Rf (w : World) (B g : Nat) (m : PM) (r : RV) : Prop where
  blk : Blk w g 78 (RfC m r)
  val : ValI w B r.vA m.saved r.vc
  t : LitI w B r.tA r.tL r.tc
  b : LitI w B r.bA r.bL r.bc
  bg : B ≤ g
  len : m.saved.length ≤ 1000000
  st0 : 0 ≤ m.state
  st1 : m.state ≤ 18446744073709551615
  tu0 : 0 ≤ m.turned
  tf : Fits m.saved.length r.tL
  bf : Fits m.saved.length r.bL
  tv : ∀ j, m.tv.getD j 0 = (rowOf r.tL m.saved.length).getD j 0
  bv : ∀ j, m.bv.getD j 0 = (rowOf r.bL m.saved.length).getD j 0
  tm : r.tL.length ≤ 4000
  bm : r.bL.length ≤ 4000
/-- What a call of it may turn. -/
def RS (g : Nat) (A : Option Addr) (i : Nat) : Prop := i = g ∨ A = some ⟨i, 0, none⟩
theorem LitI.mod {S : Nat → Prop} {w w' : World} {B : Nat} {A : Option Addr} {L : List Int} {c : Nat} (h : LitI w B A L c) (hm : Mod S w w') (hS : ∀ i cs, Blk w i 35 cs → ¬ S i) : LitI w' B A L c := by
  rcases h with h | ⟨g, h1, h2, h3⟩
  · exact .inl h
  · obtain ⟨r, hb, hc⟩ := h3
    exact .inr ⟨g, h1, h2, r, hb.mod hm (hS g _ hb), hc⟩
theorem LitI.rd {w : World} {B : Nat} {A : Option Addr} {L : List Int} {c : Nat} (h : LitI w B A L c) : RdV w A (L.map (Value.int .i32)) := by
  rcases h with ⟨rfl, rfl, _⟩ | ⟨g, rfl, _, h⟩
  · exact RdV.nil w none
  · exact h.rd
theorem Rf.mod {S : Nat → Prop} {w w' : World} {B g : Nat} {m : PM} {r : RV} (h : Rf w B g m r) (hm : Mod S w w') (h1 : ¬ S g) (h2 : ∀ i, r.vA = some ⟨i, 0, none⟩ → ¬ S i) (h3 : ∀ i cs, Blk w i 35 cs → ¬ S i) : Rf w' B g m r :=
  ⟨h.blk.mod hm h1, by
    rcases h.val with k | ⟨i, k1, k2, k3⟩
    · exact .inl k
    · exact .inr ⟨i, k1, k2, k3.mod hm (h2 i k1)⟩, h.t.mod hm h3, h.b.mod hm h3, h.bg, h.len, h.st0, h.st1, h.tu0, h.tf, h.bf, h.tv, h.bv, h.tm, h.bm⟩
theorem Rf.below {w w' : World} {B g : Nat} {m : PM} {r : RV} (h : Rf w B g m r) (hb : Below w.heap.size w w') : Rf w' B g m r := h.mod (Mod.none_ hb (fun _ => False)) id (fun _ _ => id) (fun _ _ _ => id)
theorem Rf.drewN {w : World} {B g : Nat} {m : PM} {r : RV} (h : Rf w B g m r) (n : Nat) : Rf (w.drewN n) B g m r := h.below (belowN (Below.refl _ _) n)
theorem Rf.ne_lit {w : World} {B g : Nat} {m : PM} {r : RV} (h : Rf w B g m r) {i : Nat} {cs : Array Value} (hc : Blk w i 35 cs) : ¬ i = g := fun e => h.blk.ne_ hc (by decide) e.symm
theorem Rf.ne_val {w : World} {B g : Nat} {m : PM} {r : RV} (h : Rf w B g m r) {i : Nat} (hi : r.vA = some ⟨i, 0, none⟩) : ¬ i = g := by
  rcases h.val with ⟨k, _⟩ | ⟨j, k1, _, k3⟩
  · rw [k] at hi; cases hi
  · rw [k1] at hi
    cases hi
    exact fun e => k3.ne_blk h.blk (by decide) e
theorem rdraw_ok {w : World} {B g : Nat} {m : PM} {r : RV} (h : Rf w B g m r) :
    Calls Try.prog 39 #[.pointer (some ⟨g, 0, none⟩)] w fun e w' => e = .returned (.int .u64 (nextN m.state.toNat : Nat)) ∧ Rf w' B g (drawM m) r ∧ Mod (fun i => i = g) w w' := by
  have hs0 := h.st0
  have hs1 := h.st1
  have hX : m.state.toNat < 18446744073709551616 := by omega
  refine (rdraw_walk g m.state.toNat hX w (by rw [h.blk.cell 6, show ((m.state.toNat : Nat) : Int) = m.state by omega]; rfl) (h.blk.frozen 6)).mono ?_
  rintro e w' ⟨rfl, rfl⟩
  have hm : Mod (fun i => i = g) w (w.setCell ⟨g, 6, none⟩ (.int .u64 (nextN m.state.toNat : Nat))) := Mod.setCell (Mod.refl (fun i => i = g) w) (p := ⟨g, 6, none⟩) (.inl rfl) _
  have hn := nextN_lt _ hX
  have hb := Blk.set_ h.blk 6 (.int .u64 (nextN m.state.toNat : Nat))
  refine ⟨rfl, ⟨by simpa [RfC, drawM] using hb, ?_, h.t.mod hm (fun i cs hc => h.ne_lit hc), h.b.mod hm (fun i cs hc => h.ne_lit hc), h.bg, h.len, Int.natCast_nonneg _, by show ((nextN m.state.toNat : Nat) : Int) ≤ 18446744073709551615; omega, h.tu0, h.tf, h.bf, h.tv, h.bv, h.tm, h.bm⟩, hm⟩
  rcases h.val with k | ⟨i, k1, k2, k3⟩
  · exact .inl k
  · exact .inr ⟨i, k1, k2, k3.mod hm (h.ne_val k1)⟩
theorem Rf.decM_ {w : World} {B g : Nat} {m : PM} {r : RV} (h : Rf w B g m r) {v : Nat} (hv0 : 1 ≤ v) (hv1 : v ≤ m.saved.length) : decM m v = if ofI v r.tL = 0 then m.saved.getD (v - 1) false else decide (0 < ofI v r.tL) := by
  have := rowOf_ofI h.tf hv0 hv1 r.tL.length (Nat.le_refl _)
  rw [List.take_length] at this
  unfold decM
  rw [h.tv, this]
set_option maxRecDepth 100000 in
theorem rdecide_any {w : World} {B g : Nat} {m : PM} {r : RV} (h : Rf w B g m r) (v : Int) :
    Calls Try.prog 35 #[.pointer (some ⟨g, 0, none⟩), .int .i64 v] w fun e w' => e = .returned (.tuple #[.bool (decA m v).1, .int .i64 (decA m v).2]) ∧ Below w.heap.size w w' := by
  have c0 : w.cell? ⟨g, 0, none⟩ = some (.slice r.vA m.saved.length r.vc) := h.blk.cell 0
  have HI := Lib.hid (ris_any g m.saved.length r.vA r.vc v w c0)
  by_cases hv : v < 1 ∨ (m.saved.length : Int) < v
  · have HD := Lib.hid (show decA m v = (false, 2) by unfold decA; rw [if_pos hv])
    have hb : (decide (1 ≤ v) && decide (v ≤ (m.saved.length : Int))) = false := by rw [Bool.and_eq_false_iff, decide_eq_false_iff_not, decide_eq_false_iff_not]; omega
    rw [hb] at HI
    clear h hb hv c0
    go_enter Try.func35, Try.ntmps35
    go_wp2_with fail
    refine HI.out.mono ?_
    rintro e w1 ⟨rfl, rfl⟩
    go_wp2
    go_ret2
    exact ⟨by rw [HD.out]; rfl, Below.refl _ _⟩
  · obtain ⟨i, rfl⟩ : ∃ i : Nat, v = (i : Int) + 1 := ⟨(v - 1).toNat, by omega⟩
    have hvn : ((i : Int) + 1).toNat = i + 1 := by omega
    have HD := Lib.hid (show decA m ((i : Int) + 1) = (decM m (i + 1), 0) by unfold decA; rw [if_neg hv, hvn])
    have hb : (decide (1 ≤ (i : Int) + 1) && decide ((i : Int) + 1 ≤ (m.saved.length : Int))) = true := by rw [Bool.and_eq_true, decide_eq_true_eq, decide_eq_true_eq]; omega
    rw [hb] at HI
    have hiN : i < m.saved.length := by omega
    have hlen := h.len
    have HE := Lib.hid (h.decM_ (v := i + 1) (by omega) (by omega))
    have c2 : w.cell? ⟨g, 2, none⟩ = some (.int .i64 m.tn) := h.blk.cell 2
    have c3 : w.cell? ⟨g, 3, none⟩ = some (.slice r.tA r.tL.length r.tc) := h.blk.cell 3
    have HO := Lib.hid (rof_any m.tn r.tA r.tL.length r.tc r.tL (i + 1) w (by omega) rfl (by have := h.tm; omega) h.t.rd)
    rw [show ((i + 1 : Nat) : Int) = (i : Int) + 1 by omega] at HO HE
    obtain ⟨gv, hgv, hrow⟩ : ∃ gv, r.vA = some ⟨gv, 0, none⟩ ∧ Row w gv 4 (m.saved.map Value.bool) r.vc := by
      rcases h.val with ⟨_, k, _⟩ | ⟨j, k1, _, k3⟩
      · rw [k] at hiN; exact absurd hiN (by simp)
      · exact ⟨j, k1, k3⟩
    rw [hgv] at c0
    have KC := Lib.hid (show ∀ w1, Below w.heap.size w w1 → w1.cell? ⟨g, 0, none⟩ = some (.slice (some ⟨gv, 0, none⟩) m.saved.length r.vc) ∧ w1.cell? ⟨gv, i, none⟩ = some (.bool (m.saved.getD i false)) from
      fun w1 hb => ⟨(hb.cell (p := ⟨g, 0, none⟩) h.blk.lt).trans c0, (hrow.below hb).cell (bools_at hiN)⟩)
    clear h hb hv hrow hvn
    rw [show i + 1 - 1 = i by omega] at HE
    generalize ofI ((i : Int) + 1) r.tL = x at *
    generalize m.saved.getD i false = sv at *
    generalize m.saved.length = N at *
    go_enter Try.func35, Try.ntmps35
    go_wp2_with fail
    refine HI.out.mono ?_
    rintro e w1 ⟨rfl, rfl⟩
    go_wp2_with fail
    refine HO.out.mono ?_
    rintro e w2 ⟨rfl, hb2⟩
    have HB := Lib.hid hb2
    obtain ⟨k0, k1⟩ := KC.out w2 hb2
    clear hb2 c0 c2 c3
    by_cases hx : x = 0
    · have HF := Lib.hid (show decM m (i + 1) = sv by rw [HE.out, if_pos hx])
      subst hx
      go_wp2
      go_ret2
      exact ⟨by rw [HD.out, HF.out]; rfl, HB.out⟩
    · have HF := Lib.hid (show decM m (i + 1) = decide (0 < x) by rw [HE.out, if_neg hx])
      have hxb : (x == 0) = false := by simpa using hx
      go_wp2
      go_ret2
      exact ⟨by rw [HD.out, HF.out]; rfl, HB.out⟩
end Go.Proofs.Ytcmicmghnmklnaa.Ph
