/- An arena: contracts in a row; the statement's works; ArenaNone's walk. Conditions: the memory. -/
import Derived.Test.YtenadnmglhghiaaAm
namespace Go.Proofs.Ytenadnmglhghiaa.Ar
open Go.RowKit Go.Proofs.Ytenadnmglhghiaa.Mem Go.Proofs.Ytenadnmglhghiaa.Sl Go.Shelf
open Go.Proofs.Ytenadnmglhghiaa.FnL (enc_at below_then)
set_option linter.unusedVariables false

section
variable {w0 w : World} {base : Nat} {q : AAd} {lim : Int} {its : List Itm}
theorem AR.lo (h : AR w base q lim its) {i : Nat} (hi : mq q i) : base ≤ i := by
  rcases hi with rfl | rfl | e
  · exact h.gb
  · exact h.bb
  · exact Own.base_le h.row i e
theorem AR.then_ {w' : World} (h : AR w base q lim its) (hb : Below base w0 w) (hB : base ≤ w.heap.size) (hm : Mod (mq q) w w') (h0 : base ≤ w0.heap.size) : Below base w0 w' :=
  Mem.Below.then_mod hb hm (fun i hi e => absurd (h.lo e) (Nat.not_le_of_lt hi)) h0
/-- A call of an arena leaves this. -/
def Nx (w0 : World) (base : Nat) (g : Nat) (lim : Int) (its : List Itm) (w' : World) : Prop := (∃ q', q'.g = g ∧ AR w' base q' lim its) ∧ Below base w0 w'
theorem put_b (h : AR w w0.heap.size q lim its) (hb : Below w0.heap.size w0 w) (id : Int) (hid : inI id) (A : Option Addr) (n c : Nat) (l : List Int) (hn : n = l.length) (hr : RdV w A (LI l)) (hsep : 0 < n → ∀ b off, A = some ⟨b, off, none⟩ → ¬ mq q b) (hl : ∀ y, y ∈ l → -2147483648 ≤ y ∧ y ≤ 2147483647) (hmx : n ≤ 4000000) (red : Bool) (lbd : Int) (hlb : inI lbd) (r e : Int) (its' : List Itm) (hp : putM its lim id l red lbd = (r, e, its')) :
    Calls Try.prog 9 #[.pointer (some ⟨q.g, 0, none⟩), .int .i64 id, .slice A n c, .bool red, .int .i64 lbd] w fun en w' => en = .returned (.tuple #[.int .i64 r, .int .i64 e]) ∧ Nx w0 w0.heap.size q.g lim its' w' :=
  (put_any h hb.size id hid A n c l hn hr hsep hl hmx red lbd hlb).mono fun en w' ⟨h1, ⟨q', h2, h3, _⟩, h4⟩ => by
    rw [hp] at h1 h3
    exact ⟨h1, ⟨q', h2, h3⟩, h.then_ hb hb.size h4 (Nat.le_refl _)⟩
theorem kill_b (h : AR w w0.heap.size q lim its) (hb : Below w0.heap.size w0 w) (r : Int) (hr : inI r) (e : Int) (its' : List Itm) (hp : killM its r = (e, its')) :
    Calls Try.prog 11 #[.pointer (some ⟨q.g, 0, none⟩), .int .i64 r] w fun en w' => en = .returned (.int .i64 e) ∧ AR w' w0.heap.size q lim its' ∧ Below w0.heap.size w0 w' :=
  (kill_any h r hr).mono fun en w' ⟨h1, h2, h3⟩ => by
    rw [hp] at h1 h2
    exact ⟨h1, h2, h.then_ hb hb.size h3 (Nat.le_refl _)⟩
theorem collect_b (h : AR w w0.heap.size q lim its) (hb : Below w0.heap.size w0 w) (fs ts : List Nat) (its' : List Itm) (hp : refs its = fs ∧ refs (keep its) = ts ∧ keep its = its') :
    Calls Try.prog 12 #[.pointer (some ⟨q.g, 0, none⟩)] w fun en w' => (∃ A c, en = .returned (.slice A fs.length c) ∧ SRow w' w.heap.size 42 2 A fs.length c (mvC fs ts)) ∧ Nx w0 w0.heap.size q.g lim its' w' :=
  (collect_any h hb.size).mono fun en w' ⟨h1, ⟨q', h2, h3, _⟩, h4⟩ => by
    obtain ⟨e1, e2, e3⟩ := hp
    rw [e1, e2] at h1
    rw [e3] at h3
    exact ⟨h1, ⟨q', h2, h3⟩, h.then_ hb hb.size h4 (Nat.le_refl _)⟩
end
theorem refs_nil (w : World) : Calls Try.prog 18 #[.pointer none] w fun e w' => e = .returned (.slice none 0 0) ∧ w = w' := by
  go_enter Try.func18, Try.ntmps18
  go_wp2
  go_ret
  exact ⟨rfl, rfl⟩
theorem kill_nil (r : Int) (w : World) : Calls Try.prog 11 #[.pointer none, .int .i64 r] w fun e w' => e = .returned (.int .i64 1) ∧ w = w' := by
  have HS := Lib.hid (is_nil r w)
  go_enter Try.func11, Try.ntmps11
  go_wp2_with fail
  refine HS.out.mono ?_
  rintro e w1 ⟨rfl, rfl⟩
  go_wp2
  go_ret
  exact ⟨rfl, rfl⟩
theorem shrink_nil (r n : Int) (w : World) : Calls Try.prog 24 #[.pointer none, .int .i64 r, .int .i64 n] w fun e w' => e = .returned (.int .i64 1) ∧ w = w' := by
  have HS := Lib.hid (is_nil r w)
  go_enter Try.func24, Try.ntmps24
  go_wp2_with fail
  refine HS.out.mono ?_
  rintro e w1 ⟨rfl, rfl⟩
  go_wp2
  go_ret
  exact ⟨rfl, rfl⟩
theorem swap_nil (r i k : Int) (w : World) : Calls Try.prog 25 #[.pointer none, .int .i64 r, .int .i64 i, .int .i64 k] w fun e w' => e = .returned (.int .i64 1) ∧ w = w' := by
  have HS := Lib.hid (is_nil r w)
  go_enter Try.func25, Try.ntmps25
  go_wp2_with fail
  refine HS.out.mono ?_
  rintro e w1 ⟨rfl, rfl⟩
  go_wp2
  go_ret
  exact ⟨rfl, rfl⟩
theorem mark_nil (r i k : Int) (w : World) : Calls Try.prog 26 #[.pointer none, .int .i64 r, .int .i64 i, .int .i64 k] w fun e w' => e = .returned (.int .i64 1) ∧ w = w' := by
  have HS := Lib.hid (is_nil r w)
  go_enter Try.func26, Try.ntmps26
  go_wp2_with fail
  refine HS.out.mono ?_
  rintro e w1 ⟨rfl, rfl⟩
  go_wp2
  go_ret
  exact ⟨rfl, rfl⟩
theorem below_al (w : World) (o : Obj) : Below w.heap.size w (w.alloc o) := (Below.refl _ _).alloc (Nat.le_refl _) _
/-- What is at a new block is no block of the arena's. -/
theorem AR.new_sep {w : World} {base : Nat} {q : AAd} {lim : Int} {its : List Itm} (h : AR w base q lim its) : ∀ b off, some (⟨w.heap.size, 0, none⟩ : Addr) = some ⟨b, off, none⟩ → ¬ mq q b := fun b off e hq => by
  injection e with e
  injection e with e1 _
  subst e1
  rcases hq with e | e | e
  · have := h.blk.lt; omega
  · have := h.mp.lt; omega
  · have := Own.lt h.row e; omega
def w1 : Itm := ⟨7, 7, [1, -2, 3], true, 2, 0, false⟩
def w2 : Itm := ⟨6, 8, [4, 5], false, 0, 0, false⟩
set_option maxRecDepth 100000 in
set_option maxHeartbeats 2000000 in
theorem works_any (w : World) : Calls Try.prog 7 #[] w fun e w' => e = .returned (.bool true) ∧ Below w.heap.size w w' := by
  have HN := Lib.hid (show Calls Try.prog 8 #[.int .i64 100] w fun e w' => ∃ q, e = .returned (.pointer (some ⟨q.g, 0, none⟩)) ∧ AR w' w.heap.size q 100 [] ∧ Below w.heap.size w w' from new_any 100 (by unfold inI; omega) w)
  go_enter Try.func7, Try.ntmps7
  go_wp2_with fail
  refine HN.out.mono ?_
  rintro e wa ⟨q, rfl, hq, hb⟩
  have HP := Lib.hid (put_b (hq.below (below_al wa (.cells (LI [1, -2, 3]).toArray 26))) (hb.trans ((below_al _ _).mono hb.size)) 7 (by unfold inI; omega) (some ⟨wa.heap.size, 0, none⟩) 3 3 [1, -2, 3] rfl (new_rd wa _ _) (fun _ => hq.new_sep) (by decide) (by decide) true 2 (by unfold inI; omega) 0 0 [w1] rfl)
  simp only [LI, List.map_cons, List.map_nil] at HP
  clear hq hb HN
  go_wp2_with fail
  refine HP.out.mono ?_
  rintro e wb ⟨rfl, ⟨q2, e2, hq⟩, hb⟩
  rw [← e2]
  have HP2 := Lib.hid (put_b (hq.below (below_al wb (.cells (LI [4, 5]).toArray 26))) (hb.trans ((below_al _ _).mono hb.size)) 8 (by unfold inI; omega) (some ⟨wb.heap.size, 0, none⟩) 2 2 [4, 5] rfl (new_rd wb _ _) (fun _ => hq.new_sep) (by decide) (by decide) false 0 (by unfold inI; omega) 7 0 [w1, w2] rfl)
  simp only [LI, List.map_cons, List.map_nil] at HP2
  clear hq hb HP e2
  go_wp2_with fail
  refine HP2.out.mono ?_
  rintro e wc ⟨rfl, ⟨q3, e2, hq⟩, hb⟩
  rw [← e2]
  have HK := Lib.hid (kill_b hq hb 0 (by unfold inI; omega) 0 [w1.kill, w2] rfl)
  clear hq hb HP2 e2
  go_wp2_with fail
  refine HK.out.mono ?_
  rintro e wd ⟨rfl, hq, hb⟩
  have HC := Lib.hid (collect_b hq hb [7] [0] [w2] ⟨rfl, rfl, rfl⟩)
  clear hq hb HK
  go_wp2_with fail
  refine HC.out.mono ?_
  rintro e we ⟨⟨A, c, rfl, hS⟩, ⟨q4, e2, hq⟩, hb⟩
  rw [← e2]
  obtain ⟨m, eA, hmb, _, hrow⟩ := hS.row (by decide)
  have hc0 : we.cell? ⟨m, 0, none⟩ = some (.int .i64 7) := hrow.cell rfl
  have hc1 : we.cell? ⟨m, 1, none⟩ = some (.int .i64 0) := hrow.cell rfl
  have HLN := Lib.hid (show Calls Try.prog 27 #[.pointer (some ⟨q4.g, 0, none⟩), .int .i64 0] we fun e w' => e = .returned (.int .i64 2) ∧ we = w' from len_any hq 0 (by unfold inI; omega))
  have HLT := Lib.hid (show Calls Try.prog 28 #[.pointer (some ⟨q4.g, 0, none⟩), .int .i64 0, .int .i64 1] we fun e w' => e = .returned (.int .i32 5) ∧ we = w' from lit_any hq 0 (by unfold inI; omega) 1 (by unfold inI; omega))
  have HID := Lib.hid (show Calls Try.prog 16 #[.pointer (some ⟨q4.g, 0, none⟩), .int .i64 0] we fun e w' => e = .returned (.int .i64 8) ∧ Below we.heap.size we w' from id_any hq 0 (by unfold inI; omega))
  have HB := Lib.hid hb
  subst eA
  rw [show [7].length = 1 from rfl]
  clear hS hq hb hrow hmb HC e2
  go_wp2_with fail
  refine HLN.out.mono ?_
  rintro e w' ⟨rfl, rfl⟩
  go_wp2_with fail
  refine HLT.out.mono ?_
  rintro e w' ⟨rfl, rfl⟩
  go_wp2_with fail
  refine HID.out.mono ?_
  rintro e w' ⟨rfl, hb'⟩
  have HB' := Lib.hid (below_then HB.out hb' HB.out.size)
  clear hb'
  go_wp2
  go_ret
  exact ⟨rfl, HB'.out⟩
set_option maxHeartbeats 2000000 in
theorem none_walk (cells : Array Value) (k : Int) (id : Int) (A : Option Addr) (n c : Nat) (red loose : Bool) (r i j : Int) (w : World) (hr : inI r) :
    Calls Try.prog 5 #[.agg #[.int .i64 k, .int .i64 id, .slice A n c, .bool red, .int .i64 r, .bool loose, .int .i64 i, .int .i64 j]] w fun e w' => e = .returned (.bool true) ∧ Below w.heap.size w w' := by
  obtain ⟨W, hW⟩ : ∃ W, W = w.alloc (.cells #[.int .i64 k, .int .i64 id, .slice A n c, .bool red, .int .i64 r, .bool loose, .int .i64 i, .int .i64 j] 57) := ⟨_, rfl⟩
  have hbk : Blk W w.heap.size 57 #[.int .i64 k, .int .i64 id, .slice A n c, .bool red, .int .i64 r, .bool loose, .int .i64 i, .int .i64 j] := by rw [hW]; exact Blk.new _ _ _
  have c1 := hbk.cell 1
  have c2 := hbk.cell 2
  have c3 := hbk.cell 3
  have c4 := hbk.cell 4
  have c6 := hbk.cell 6
  have HB := Lib.hid (show Below w.heap.size w W by rw [hW]; exact below_al _ _)
  have HW := Lib.hid hW
  clear hbk hW hr
  go_enter Try.func5, Try.ntmps5
  go_upto_region 1 with (fail)
  rw [← HW.out]
  go_wp2_with fail
  refine (put_nil _ _ _ _ _ _ _).mono ?_
  rintro e w1 ⟨rfl, rfl⟩
  go_wp2_with fail
  refine (words_nil _).mono ?_
  rintro e w1 ⟨rfl, rfl⟩
  go_wp2_with fail
  refine (lbd_nil _ _).mono ?_
  rintro e w1 ⟨rfl, rfl⟩
  go_wp2_with fail
  refine (kill_nil _ _).mono ?_
  rintro e w1 ⟨rfl, rfl⟩
  go_wp2_with fail
  refine (shrink_nil _ _ _).mono ?_
  rintro e w1 ⟨rfl, rfl⟩
  go_wp2_with fail
  refine (swap_nil _ _ _ _).mono ?_
  rintro e w1 ⟨rfl, rfl⟩
  go_wp2_with fail
  refine (mark_nil _ _ _ _).mono ?_
  rintro e w1 ⟨rfl, rfl⟩
  go_wp2_with fail
  refine (lits_nil _ _).mono ?_
  rintro e w1 ⟨rfl, rfl⟩
  go_wp2_with fail
  refine (len_nil _ _).mono ?_
  rintro e w1 ⟨rfl, rfl⟩
  go_wp2_with fail
  refine (lit_nil _ _ _ (by decide)).mono ?_
  rintro e w1 ⟨rfl, rfl⟩
  go_wp2_with fail
  refine (id_nil _ _).mono ?_
  rintro e w1 ⟨rfl, rfl⟩
  go_wp2_with fail
  refine (red_nil _ _).mono ?_
  rintro e w1 ⟨rfl, rfl⟩
  go_wp2_with fail
  refine (refs_nil _).mono ?_
  rintro e w1 ⟨rfl, rfl⟩
  go_wp2_with fail
  refine (collect_nil _).mono ?_
  rintro e w1 ⟨rfl, rfl⟩
  go_wp2_with fail
  refine (works_any _).mono ?_
  rintro e w1 ⟨rfl, hb⟩
  have HB1 := Lib.hid (below_then HB.out hb HB.out.size)
  clear hb
  go_wp2
  go_ret
  exact ⟨rfl, HB1.out⟩
end Go.Proofs.Ytenadnmglhghiaa.Ar
