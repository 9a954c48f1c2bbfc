/- The document's heap in memory: is, before, Has, Score, Top, New. Conditions: the memory. -/
import Derived.Test.YtienomdennbkpaaHo
namespace Go.Proofs.Ytienomdennbkpaa.He
open Go.RowKit Go.Proofs.Ytienomdennbkpaa.Mem Go.Proofs.Ytienomdennbkpaa.Sl Go.Shelf
open Go.Proofs.Ytienomdennbkpaa.FnL (enc_at below_then)
set_option linter.unusedVariables false

structure DA where
  g : Nat
  s : Nat
  sc : Nat
  lA : Option Addr
  lc : Nat
def mineD (d : DA) (i : Nat) : Prop := i = d.g ∨ i = d.s ∨ d.lA = some ⟨i, 0, none⟩
/-- The document's heap: scores s, those in it l. -/
structure RH (w : World) (B N : Nat) (d : DA) (s l : List Int) : Prop where
  blk : Blk w d.g 69 #[.slice (some ⟨d.s, 0, none⟩) (N + 1) d.sc, .slice d.lA l.length d.lc]
  sr : Row w d.s 2 (LZ s) d.sc
  lr : App.Own w B 3 d.lA l.length d.lc (LZ l)
  sl : s.length = N + 1
  rg : ∀ x, x ∈ l → 1 ≤ x ∧ x ≤ N
  nd : l.Nodup
  bg : B ≤ d.g ∧ B ≤ d.s
  hN : N ≤ 1048576
section
variable {w w' : World} {B N : Nat} {d : DA} {s l : List Int}
theorem RH.lenN (h : RH w B N d s l) : l.length ≤ N := by
  have h1 : l ⊆ (List.range N).map (fun i : Nat => (i : Int) + 1) := fun x hx => by
    have := h.rg x hx
    exact List.mem_map.2 ⟨(x - 1).toNat, List.mem_range.2 (by omega), by omega⟩
  have := h.nd.length_le_of_subset h1
  simpa using this
theorem RH.lA (h : RH w B N d s l) {i : Nat} (e : d.lA = some ⟨i, 0, none⟩) : B ≤ i ∧ i < w.heap.size ∧ ∃ cs, Blk w i 3 cs := by
  obtain ⟨_, ⟨e2, _⟩ | ⟨g, e2, h1, _, r, h3, _⟩⟩ := h.lr
  · rw [e] at e2; cases e2
  · rw [e] at e2
    cases e2
    exact ⟨h1, h3.lt, _, h3⟩
theorem RH.lt (h : RH w B N d s l) {i : Nat} (hi : mineD d i) : B ≤ i ∧ i < w.heap.size := by
  rcases hi with rfl | rfl | e
  · exact ⟨h.bg.1, h.blk.lt⟩
  · exact ⟨h.bg.2, h.sr.lt⟩
  · have := h.lA e; exact ⟨this.1, this.2.1⟩
theorem RH.typ (h : RH w B N d s l) {i : Nat} (hi : mineD d i) : ∃ t cs, Blk w i t cs ∧ (t = 69 ∨ t = 2 ∨ t = 3) := by
  rcases hi with rfl | rfl | e
  · exact ⟨_, _, h.blk, .inl rfl⟩
  · obtain ⟨r, h1, _⟩ := h.sr; exact ⟨_, _, h1, .inr (.inl rfl)⟩
  · obtain ⟨_, _, cs, h1⟩ := h.lA e; exact ⟨_, _, h1, .inr (.inr rfl)⟩
theorem RH.mod {S : Nat → Prop} (h : RH w B N d s l) (hm : Mod S w w') (hS : ∀ i, mineD d i → ¬ S i) : RH w' B N d s l :=
  ⟨h.blk.mod hm (hS _ (.inl rfl)), h.sr.mod hm (hS _ (.inr (.inl rfl))), h.lr.mod hm (fun i _ e => hS i (.inr (.inr e))), h.sl, h.rg, h.nd, h.bg, h.hN⟩
theorem RH.below (h : RH w B N d s l) (hb : Below w.heap.size w w') : RH w' B N d s l := h.mod (Mod.none_ hb (fun _ => False)) (fun _ _ => id)
theorem RH.drewN (h : RH w B N d s l) (n : Nat) : RH (w.drewN n) B N d s l := h.below (belowN (Below.refl _ _) n)
theorem RH.low {B' : Nat} (h : RH w B N d s l) (hb : B' ≤ B) : RH w B' N d s l := ⟨h.blk, h.sr, h.lr.low hb, h.sl, h.rg, h.nd, ⟨by have := h.bg.1; omega, by have := h.bg.2; omega⟩, h.hN⟩
theorem RH.gs (h : RH w B N d s l) : d.g ≠ d.s := by obtain ⟨r, h1, _⟩ := h.sr; exact h.blk.ne_ h1 (by decide)
theorem RH.gl (h : RH w B N d s l) {i : Nat} (e : d.lA = some ⟨i, 0, none⟩) : i ≠ d.g ∧ i ≠ d.s := by
  obtain ⟨_, _, cs, h1⟩ := h.lA e
  obtain ⟨r2, h2, _⟩ := h.sr
  exact ⟨h1.ne_ h.blk (by decide), h1.ne_ h2 (by decide)⟩
theorem RH.sc_ (h : RH w B N d s l) {v : Nat} (hv : v ≤ N) : w.cell? ⟨d.s, v, none⟩ = some (.int .i64 (s.getD v 0)) := h.sr.cell (LZ_at (by rw [h.sl]; omega))
theorem RH.at_ (h : RH w B N d s l) {i : Nat} (hi : i < l.length) : ∃ a, d.lA = some ⟨a, 0, none⟩ ∧ w.cell? ⟨a, i, none⟩ = some (.int .i64 (l.getD i 0)) := by
  obtain ⟨a, e, _, hr⟩ := h.lr.row (by omega)
  exact ⟨a, e, hr.cell (LZ_at hi)⟩
end
theorem dis_any {w : World} {B N : Nat} {d : DA} {s l : List Int} (h : RH w B N d s l) (v : Int) : Calls Try.prog 53 #[.pointer (some ⟨d.g, 0, none⟩), .int .i64 v] w fun e w' => e = .returned (.bool (isB N v)) ∧ w = w' := by
  have c2 : w.cell? ⟨d.g, 0, none⟩ = some (.slice (some ⟨d.s, 0, none⟩) (N + 1) d.sc) := h.blk.cell 0
  have hN := h.hN
  clear h
  by_cases h1 : 1 ≤ v
  · by_cases h2 : v ≤ N
    · have HE := Lib.hid (show isB N v = true from decide_eq_true ⟨h1, h2⟩)
      have h3 : v < (N : Int) + 1 := by omega
      go_enter Try.func53, Try.ntmps53
      go_wp2
      go_ret
      exact ⟨by rw [HE.out]; rfl, rfl⟩
    · have HE := Lib.hid (show isB N v = false from decide_eq_false (fun h => h2 h.2))
      have h3 : ¬ v < (N : Int) + 1 := by omega
      have h4 : (N : Int) + 1 ≤ v := by omega
      go_enter Try.func53, Try.ntmps53
      go_wp2
      go_ret
      exact ⟨by rw [HE.out]; rfl, rfl⟩
  · have HE := Lib.hid (show isB N v = false from decide_eq_false (fun h => h1 h.1))
    go_enter Try.func53, Try.ntmps53
    go_wp2
    go_ret
    exact ⟨by rw [HE.out]; rfl, rfl⟩
set_option maxRecDepth 100000 in
theorem dbefore_any {w : World} {B N : Nat} {d : DA} {s l : List Int} (h : RH w B N d s l) (a b : Nat) (ha : a ≤ N) (hb : b ≤ N) :
    Calls Try.prog 67 #[.pointer (some ⟨d.g, 0, none⟩), .int .i64 (a : Int), .int .i64 (b : Int)] w fun e w' => e = .returned (.bool (decide (kf s a < kf s b))) ∧ ∃ k, w' = w.drewN k := by
  have c0 : w.cell? ⟨d.g, 0, none⟩ = some (.slice (some ⟨d.s, 0, none⟩) (N + 1) d.sc) := h.blk.cell 0
  have ca := h.sc_ ha
  have cb := h.sc_ hb
  have hN := h.hN
  have e1 : (a : Int) < (N : Int) + 1 := by omega
  have e2 : (b : Int) < (N : Int) + 1 := by omega
  have e3 : a < N + 1 := by omega
  have e4 : b < N + 1 := by omega
  have HE := Lib.hid (show decide (kf s a < kf s b) = if s.getD a 0 = s.getD b 0 then decide (a < b) else decide (s.getD b 0 < s.getD a 0) by
    rw [← bef_kf s (by omega) (by omega)]
    unfold befB; simp only [Int.toNat_natCast, Int.ofNat_lt, gt_iff_lt])
  clear h
  generalize s.getD a 0 = x at *
  generalize s.getD b 0 = y at *
  by_cases hxy : x = y
  · have HF := Lib.hid (HE.out.trans (if_pos hxy))
    clear HE
    subst hxy
    go_enter Try.func67, Try.ntmps67
    go_wp2_with fail
    go_quiet (fail)
    go_wp2
    go_ret
    exact ⟨by rw [HF.out]; rfl, _, rfl⟩
  · by_cases hlt : y < x
    · have HF := Lib.hid ((HE.out.trans (if_neg hxy)).trans (decide_eq_true hlt))
      clear HE
      go_enter Try.func67, Try.ntmps67
      go_wp2_with fail
      go_quiet (fail)
      go_wp2
      go_ret
      exact ⟨by rw [HF.out]; rfl, _, rfl⟩
    · have HF := Lib.hid (HE.out.trans (if_neg hxy))
      clear HE
      go_enter Try.func67, Try.ntmps67
      go_wp2_with fail
      go_quiet (fail)
      go_wp2
      go_ret
      exact ⟨by rw [HF.out]; rfl, _, rfl⟩
set_option maxRecDepth 100000 in
theorem dhas_any {w : World} {B N : Nat} {d : DA} {s l : List Int} (h : RH w B N d s l) (v : Int) : Calls Try.prog 46 #[.pointer (some ⟨d.g, 0, none⟩), .int .i64 v] w fun e w' => e = .returned (.bool (decide (v ∈ l))) ∧ w = w' := by
  have c1 : w.cell? ⟨d.g, 1, none⟩ = some (.slice d.lA l.length d.lc) := h.blk.cell 1
  have HH := Lib.hid h
  have hN := h.hN
  have hl := h.lenN
  clear h
  go_enter Try.func46, Try.ntmps46
  go_wp2_with fail
  go_loopw [5] (fun i wr => ∃ k : Nat, k ≤ l.length ∧ i = .int .i64 k ∧ (∀ j, j < k → l.getD j 0 ≠ v) ∧ w = wr) (fun i _ => l.length - (intOf i).toNat)
  case atStart => exact ⟨0, Nat.zero_le _, rfl, fun j hj => absurd hj (Nat.not_lt_zero _), rfl⟩
  case round =>
    obtain ⟨k, hk, rfl, hno, rfl⟩ := hrel
    have HNO := Lib.hid hno
    clear hno
    by_cases hlt : k < l.length
    · obtain ⟨a, eA, ca⟩ := HH.out.at_ hlt
      rw [eA] at c1
      have hlt1 : (k : Int) < (l.length : Int) := by omega
      obtain ⟨x, hx⟩ : ∃ x, x = l.getD k 0 := ⟨_, rfl⟩
      rw [← hx] at ca
      have HX := Lib.hid hx
      clear hx
      by_cases hxv : x = v
      · have HE := Lib.hid (show decide (v ∈ l) = true from decide_eq_true (by rw [← hxv, HX.out]; exact getD_mem hlt))
        subst hxv
        go_wp2
        go_ret
        exact ⟨by rw [HE.out]; rfl, rfl⟩
      · go_wp2
        go_roundw
        case rel => exact ⟨k + 1, by omega, by go_num, fun j hj => by
          by_cases hjk : j = k
          · subst hjk; rw [← HX.out]; exact hxv
          · exact HNO.out j (by omega), (by first | rfl | trivial)⟩
        case measure => simp [intOf]; omega
    · have hlt1 : ¬ (k : Int) < (l.length : Int) := by omega
      have HE := Lib.hid (show decide (v ∈ l) = false from decide_eq_false (fun hm => by
        obtain ⟨j, hj, he⟩ := List.getElem_of_mem hm
        exact HNO.out j (by omega) (by rw [List.getD_eq_getElem?_getD, List.getElem?_eq_getElem hj]; exact he)))
      go_wp2
      go_ret
      exact ⟨by rw [HE.out]; rfl, rfl⟩
theorem dscore_any {w : World} {B N : Nat} {d : DA} {s l : List Int} (h : RH w B N d s l) (v : Int) : Calls Try.prog 47 #[.pointer (some ⟨d.g, 0, none⟩), .int .i64 v] w fun e w' => e = .returned (.int .i64 (scI N s v)) ∧ w = w' := by
  have HI := Lib.hid (dis_any h v)
  by_cases h1 : 1 ≤ v ∧ v ≤ N
  · obtain ⟨u, rfl⟩ : ∃ u : Nat, v = u := ⟨v.toNat, by omega⟩
    have hb : isB N u = true := decide_eq_true h1
    have HE := Lib.hid (show scI N s u = s.getD u 0 by unfold scI; rw [if_pos hb, Int.toNat_natCast])
    rw [hb] at HI
    have c2 : w.cell? ⟨d.g, 0, none⟩ = some (.slice (some ⟨d.s, 0, none⟩) (N + 1) d.sc) := h.blk.cell 0
    have px := h.sc_ (v := u) (by omega)
    have hN := h.hN
    have e1 : (u : Int) < (N : Int) + 1 := by omega
    have e2 : u < N + 1 := by omega
    clear h h1 hb
    generalize s.getD u 0 = x at *
    go_enter Try.func47, Try.ntmps47
    go_wp2_with fail
    refine HI.out.mono ?_
    rintro e w1 ⟨rfl, rfl⟩
    go_wp2
    go_ret
    exact ⟨by rw [HE.out]; rfl, rfl⟩
  · have hb : isB N v = false := decide_eq_false h1
    have HE := Lib.hid (show scI N s v = 0 by unfold scI; rw [hb]; rfl)
    rw [hb] at HI
    clear h h1 hb
    go_enter Try.func47, Try.ntmps47
    go_wp2_with fail
    refine HI.out.mono ?_
    rintro e w1 ⟨rfl, rfl⟩
    go_wp2
    go_ret
    exact ⟨by rw [HE.out]; rfl, rfl⟩
set_option maxRecDepth 100000 in
theorem dtop_any {w : World} {B N : Nat} {d : DA} {s l : List Int} (h : RH w B N d s l) : Calls Try.prog 45 #[.pointer (some ⟨d.g, 0, none⟩)] w fun e w' => e = .returned (.tuple #[.int .i64 (l.getD 0 0), .bool (decide (0 < l.length))]) ∧ w = w' := by
  have c1 : w.cell? ⟨d.g, 1, none⟩ = some (.slice d.lA l.length d.lc) := h.blk.cell 1
  by_cases hp : 0 < l.length
  · have HE := Lib.hid (show decide (0 < l.length) = true from decide_eq_true hp)
    obtain ⟨a, eA, ca⟩ := h.at_ hp
    rw [eA] at c1
    have hl := h.lenN
    have hN := h.hN
    have hne : ¬ (l.length : Int) = 0 := by omega
    clear h
    generalize l.getD 0 0 = x at *
    generalize l.length = L at *
    go_enter Try.func45, Try.ntmps45
    go_wp2
    go_ret2
    exact ⟨by rw [HE.out]; rfl, rfl⟩
  · have h0 : l = [] := List.eq_nil_of_length_eq_zero (by omega)
    have c2 : w.cell? ⟨d.g, 1, none⟩ = some (.slice d.lA 0 d.lc) := by rw [h0] at c1; exact c1
    rw [h0]
    clear h hp h0 c1
    go_enter Try.func45, Try.ntmps45
    go_wp2
    go_ret2
    exact ⟨rfl, rfl⟩
theorem dnew_bad (n : Int) (w : World) (hn : n < 0 ∨ 1048576 < n) :
    Calls Try.prog 22 #[.int .i64 n] w fun e w' => e = .returned (.tuple #[.pointer none, .int .i64 2]) ∧ w = w' := by
  by_cases h0 : n < 0
  · go_enter Try.func22, Try.ntmps22
    go_wp2
    go_ret2
    exact ⟨rfl, rfl⟩
  · have h1 : 1048576 < n := by omega
    go_enter Try.func22, Try.ntmps22
    go_wp2
    go_ret2
    exact ⟨rfl, rfl⟩
def DNewR (w : World) (N : Nat) (e : Ending) (w' : World) : Prop := (∃ d, e = .returned (.tuple #[.pointer (some ⟨d.g, 0, none⟩), .int .i64 0]) ∧ RH w' w.heap.size N d (List.replicate (N + 1) 0) []) ∧ Below w.heap.size w w'
set_option maxRecDepth 100000 in
theorem dnew_ok (N : Nat) (h : N ≤ 1048576) (w : World) : Calls Try.prog 22 #[.int .i64 (N : Int)] w (DNewR w N) := by
  have p1 : ¬ (N : Int) < 0 := by omega
  have p2 : ¬ 1048576 < (N : Int) := by omega
  have e1 : IntKind.i64.wrap ((N : Int) + 1) = ((N + 1 : Nat) : Int) := by rw [IntWalk.i64_in _ (by omega)]; omega
  have mj : ∀ W, (Instr.makeSlice 22 (.int .i64 ((N + 1 : Nat) : Int)) (.int .i64 ((N + 1 : Nat) : Int))).run Try.prog W = .ok (.slice (some ⟨W.heap.size, 0, none⟩) (N + 1) (N + 1)) (W.alloc (.cells (madeCells #[.int .i64 0] (N + 1)) 2)) := fun W =>
    run_make_row' _ _ (.int .i64 0) 8 Try.underlying22 infoJ rfl .i64 .i64 (N + 1) (by omega) (by omega) W
  have HF := Lib.hid (show DNewR w N (.returned (.tuple #[.pointer (some ⟨w.heap.size + 1, 0, none⟩), .int .i64 0])) ((w.alloc (.cells (madeCells #[.int .i64 0] (N + 1)) 2)).alloc (.cells #[.slice (some ⟨w.heap.size, 0, none⟩) (N + 1) (N + 1), .slice none 0 0] 69)) from by
    have hb := Blk.new (w.alloc (.cells (madeCells #[.int .i64 0] (N + 1)) 2)) 69 #[.slice (some ⟨w.heap.size, 0, none⟩) (N + 1) (N + 1), .slice none 0 0]
    rw [World.size_alloc] at hb
    have hr := (mrow w (N + 1)).alloc (.cells #[.slice (some ⟨w.heap.size, 0, none⟩) (N + 1) (N + 1), .slice none 0 0] 69)
    exact ⟨⟨⟨w.heap.size + 1, w.heap.size, N + 1, none, 0⟩, rfl, ⟨hb, by unfold LZ; rw [List.map_replicate]; exact hr, App.Own.nil _ _ _, by simp, fun x hx => (by cases hx), List.nodup_nil, ⟨by show w.heap.size ≤ w.heap.size + 1; omega, Nat.le_refl _⟩, h⟩⟩, ((Below.refl _ _).alloc (Nat.le_refl _) _).alloc (by rw [World.size_alloc]; omega) _⟩)
  clear h
  generalize hM : N + 1 = M at *
  clear hM
  go_enter Try.func22, Try.ntmps22
  go_wp2
  go_ret2
  exact HF.out
end Go.Proofs.Ytienomdennbkpaa.He
