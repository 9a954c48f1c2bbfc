/- Queue: New. Conditions: at most a million variables. -/
import Derived.Test.YtgldhnjbodmbbaaQc
import Derived.Laws.MakeOwn
namespace Go.Proofs.Ytgldhnjbodmbbaa.Qu
open Go.RowKit Go.Proofs.Ytgldhnjbodmbbaa.Mem Go.Proofs.Ytgldhnjbodmbbaa.Sl Go.Shelf
open Go.Proofs.Ytgldhnjbodmbbaa.FnL (enc_at below_then)
set_option linter.unusedVariables false

theorem new_bad (v : Int) (h : v < 0 ∨ 1048576 < v) (w : World) : Calls Try.prog 10 #[.int .i64 v] w fun e w' => e = .returned (.tuple #[.pointer none, .int .i64 2]) ∧ w = w' := by
  by_cases p1 : v < 0
  · clear h
    go_enter Try.func10, Try.ntmps10
    go_wp2
    go_ret2
    exact ⟨rfl, rfl⟩
  · have p2 : 1048576 < v := by omega
    clear h
    go_enter Try.func10, Try.ntmps10
    go_wp2
    go_ret2
    exact ⟨rfl, rfl⟩
def newQ (N : Nat) : QM := ⟨N, (List.range N).map (· + 1), fun v => if v ≤ N then (v : Int) else 0, 0⟩
theorem newQ_w {N : Nat} (h : N ≤ 1048576) : QW (newQ N) := by
  refine ⟨?_, fun v => ?_, by simp [newQ], h, Int.le_refl _, (by decide : (0 : Int) ≤ 1000000), fun v hv => ?_⟩
  · show ((List.range N).map (· + 1)).Nodup
    unfold List.Nodup
    rw [List.pairwise_map]
    exact List.Pairwise.imp (fun {a b} (h : a ≠ b) => (by omega : a + 1 ≠ b + 1)) List.nodup_range
  · show v ∈ (List.range N).map (· + 1) ↔ _
    rw [List.mem_map]
    constructor
    · rintro ⟨a, ha, rfl⟩; have := List.mem_range.1 ha; show 1 ≤ a + 1 ∧ a + 1 ≤ N; omega
    · rintro ⟨h1, h2⟩; have h2 : v ≤ N := h2; exact ⟨v - 1, List.mem_range.2 (by omega), by omega⟩
  · have hv : v ≤ N := hv
    show 0 ≤ (if v ≤ N then (v : Int) else 0) ∧ (if v ≤ N then (v : Int) else 0) ≤ (N : Int) + 0
    rw [if_pos hv]; omega
theorem madeOne (z : Value) (n : Nat) : madeCells #[z] n = (List.replicate n z).toArray := by
  apply Array.ext
  · simp [madeCells]
  · intro i h1 h2
    simp [madeCells, Nat.mod_one]
theorem make_arr (N : Nat) : (madeCells #[.int .i64 0] (N + 1)) = (arr N (fun _ => 0)).toArray := by
  rw [madeOne]
  unfold arr
  rw [List.map_const', List.length_range]
theorem blk_here {w : World} {k : Nat} {t : TypeId} {cs : Array Value} (h : k = w.heap.size) : Blk (w.alloc (.cells cs t)) k t cs := h ▸ Blk.new w t cs
/-- A queue whose arrays are laid, all 0. -/
def New0 (w : World) (N : Nat) (v : Value) (w' : World) : Prop := ∃ g r, v = .pointer (some ⟨g, 0, none⟩) ∧ QuR w' w.heap.size g r ∧ r.N = N ∧ r.ah = (fun _ => 0) ∧ r.bh = (fun _ => 0) ∧ r.st = (fun _ => 0) ∧ r.moved = 0 ∧ r.mA = none ∧ Below w.heap.size w w'
theorem new0_of {w w' : World} {N M g i j k : Nat} (hM : N + 1 = M) (hg : Blk w' g 53 #[.slice (some ⟨i, 0, none⟩) M M, .slice (some ⟨j, 0, none⟩) M M, .slice (some ⟨k, 0, none⟩) M M, .int .i64 0, .int .i64 0, .slice none 0 0]) (hi : Blk w' i 3 (madeCells #[.int .i64 0] M)) (hj : Blk w' j 3 (madeCells #[.int .i64 0] M)) (hk : Blk w' k 2 (madeCells #[.int .i64 0] M))
    (hb : Below w.heap.size w w') (h1 : w.heap.size ≤ i) (h2 : w.heap.size ≤ j) (h3 : w.heap.size ≤ k) (h4 : w.heap.size ≤ g) (hne : i ≠ j) :
    New0 w N (.pointer (some ⟨g, 0, none⟩)) w' := by
  subst hM
  rw [make_arr] at hi hj hk
  refine ⟨g, ⟨N, fun _ => 0, fun _ => 0, fun _ => 0, 0, 0, [], i, j, k, N + 1, N + 1, N + 1, none, 0⟩, rfl, ⟨hg, ⟨[], by simpa using hi, by simp [arr_len]⟩, ⟨[], by simpa using hj, by simp [arr_len]⟩, ⟨[], by simpa using hk, by simp [arr_len]⟩, App.Own.nil _ _ _, hne, h4, h1, h2, h3⟩, rfl, rfl, rfl, rfl, rfl, rfl, hb⟩
theorem infoI : (Try.prog.info? 3).map (fun i => (i.zero, i.size, i.bytes)) = some (some (.int .i64 0), 1, 8) := by kernel_rfl
theorem infoJ : (Try.prog.info? 2).map (fun i => (i.zero, i.size, i.bytes)) = some (some (.int .i64 0), 1, 8) := by kernel_rfl
theorem Lk_of {bh ah : Nat → Nat} : ∀ (l : List Nat), (∀ i (h : i + 1 < l.length), bh (l[i]'(by omega)) = l[i + 1] ∧ ah l[i + 1] = l[i]'(by omega)) → Lk bh ah l
  | [], _ => trivial
  | [a], _ => trivial
  | a :: b :: r, h => ⟨h 0 (by simp), Lk_of (b :: r) fun i hi => h (i + 1) (by simpa using hi)⟩
def nbh (N : Nat) : Nat → Nat := fun v => if v = N then 0 else if v < N then v + 1 else if v < N + 1 then v + 1 else 0
def nah (N : Nat) : Nat → Nat := fun v => if v = 0 then N else if v < N + 1 then v - 1 else 0
theorem new_lk (N : Nat) : Lk (nbh N) (nah N) (cyc (newQ N).row) := by
  have hc : ∀ i (h : i < (cyc (newQ N).row).length), (cyc (newQ N).row)[i] = if i ≤ N then i else 0 := fun i h => by
    have hl : (cyc (newQ N).row).length = N + 2 := by simp [cyc, newQ]
    have e : (cyc (newQ N).row)[i]? = some (if i ≤ N then i else 0) := by
      unfold cyc newQ
      rcases i with _ | i
      · simp
      · rw [List.getElem?_cons_succ]
        by_cases h1 : i < N
        · rw [List.getElem?_append_left (by simpa using h1), List.getElem?_map, List.getElem?_range h1, if_pos (by omega)]; rfl
        · obtain rfl : i = N := by omega
          rw [List.getElem?_append_right (by simp), if_neg (by omega)]; simp
    rw [List.getElem?_eq_getElem h] at e
    exact Option.some.inj e
  refine Lk_of _ fun i hi => ?_
  have hl : (cyc (newQ N).row).length = N + 2 := by simp [cyc, newQ]
  rw [hc _ hi, hc i (by omega), if_pos (show i ≤ N by omega)]
  unfold nbh nah
  by_cases e : i = N
  · subst e
    rw [if_pos rfl, if_neg (by omega), if_pos rfl]; exact ⟨rfl, rfl⟩
  · rw [if_neg e, if_pos (show i < N by omega), if_pos (show i + 1 ≤ N by omega), if_neg (by omega), if_pos (by omega)]; exact ⟨rfl, by omega⟩
/-- The arrays behind k rounds. -/
def rk (r : QR) (k : Nat) : QR := { r with ah := fun v => if v < k then (v : Int) - 1 else 0, bh := fun v => if v < k then (v : Int) + 1 else 0, st := fun v => if v < k then (v : Int) else 0 }
theorem rk_next (r : QR) (k : Nat) : rk r (k + 1) = { rk r k with ah := updI (rk r k).ah k ((k : Int) - 1), bh := updI (rk r k).bh k ((k : Int) + 1), st := updI (rk r k).st k (k : Int) } := by
  have h1 : (fun v : Nat => if v < k + 1 then (v : Int) - 1 else 0) = updI (fun v => if v < k then (v : Int) - 1 else 0) k ((k : Int) - 1) := by
    funext v; unfold updI; dsimp only
    by_cases e : v = k
    · subst e; rw [if_pos (by omega), if_pos rfl]
    · rw [if_neg e]; by_cases h : v < k
      · rw [if_pos (by omega), if_pos h]
      · rw [if_neg (by omega), if_neg h]
  have h2 : (fun v : Nat => if v < k + 1 then (v : Int) + 1 else 0) = updI (fun v => if v < k then (v : Int) + 1 else 0) k ((k : Int) + 1) := by
    funext v; unfold updI; dsimp only
    by_cases e : v = k
    · subst e; rw [if_pos (by omega), if_pos rfl]
    · rw [if_neg e]; by_cases h : v < k
      · rw [if_pos (by omega), if_pos h]
      · rw [if_neg (by omega), if_neg h]
  have h3 : (fun v : Nat => if v < k + 1 then (v : Int) else 0) = updI (fun v => if v < k then (v : Int) else 0) k (k : Int) := by
    funext v; unfold updI; dsimp only
    by_cases e : v = k
    · subst e; rw [if_pos (by omega), if_pos rfl]
    · rw [if_neg e]; by_cases h : v < k
      · rw [if_pos (by omega), if_pos h]
      · rw [if_neg (by omega), if_neg h]
  unfold rk
  rw [h1, h2, h3]
def rFin (r : QR) : QR := { rk r (r.N + 1) with ah := updI (rk r (r.N + 1)).ah 0 (r.N : Int), bh := updI (rk r (r.N + 1)).bh r.N 0 }
theorem fin_inv {r : QR} (hN : r.N ≤ 1048576) (hm : r.moved = 0) (hA : r.mA = none) (r' : QR) (h1 : r'.N = r.N) (h2 : r'.ah = (rFin r).ah) (h3 : r'.bh = (rFin r).bh) (h4 : r'.st = (rFin r).st) (h5 : r'.moved = r.moved) (h6 : r'.mA = r.mA) : Inv (newQ r.N) r' := by
  refine ⟨newQ_w hN, h1, ?_, by rw [h5, hm]; rfl, ⟨nbh r.N, nah r.N, ?_, ?_, new_lk _⟩, fun e => absurd (h6.trans hA) e⟩
  · rw [h4]
    funext v
    show (if v < r.N + 1 then (v : Int) else 0) = if v ≤ r.N then (v : Int) else 0
    by_cases h : v ≤ r.N
    · rw [if_pos (by omega), if_pos h]
    · rw [if_neg (by omega), if_neg h]
  · rw [h3]
    funext v
    show updI (fun v => if v < r.N + 1 then (v : Int) + 1 else 0) r.N 0 v = _
    unfold updI nbh; dsimp only
    by_cases e : v = r.N
    · rw [if_pos e, if_pos e]; rfl
    · rw [if_neg e, if_neg e]
      by_cases h : v < r.N
      · rw [if_pos (by omega), if_pos h]; rfl
      · rw [if_neg (by omega), if_neg h, if_neg (by omega)]; rfl
  · rw [h2]
    funext v
    show updI (fun v => if v < r.N + 1 then (v : Int) - 1 else 0) 0 (r.N : Int) v = _
    unfold updI nah; dsimp only
    by_cases e : v = 0
    · rw [if_pos e, if_pos e]
    · rw [if_neg e, if_neg e]
      by_cases h : v < r.N + 1
      · rw [if_pos h, if_pos h]; omega
      · rw [if_neg h, if_neg h]; rfl
def NewR (w : World) (N : Nat) (e : Ending) (w' : World) : Prop := ∃ g r, e = .returned (.tuple #[.pointer (some ⟨g, 0, none⟩), .int .i64 0]) ∧ QuR w' w.heap.size g r ∧ Inv (newQ N) r ∧ Below w.heap.size w w' ∧ r.mA = none
set_option maxRecDepth 100000 in
set_option maxHeartbeats 4000000 in
theorem new_ok (N : Nat) (h : N ≤ 1048576) (w : World) : Calls Try.prog 10 #[.int .i64 (N : Int)] w fun e w' => NewR w N e w' := by
  have p1 : ¬ (N : Int) < 0 := by omega
  have p2 : ¬ 1048576 < (N : Int) := by omega
  have e1 : IntKind.i64.wrap ((N : Int) + 1) = ((N + 1 : Nat) : Int) := by rw [IntWalk.i64_in _ (by omega)]; omega
  have mi : ∀ W, (Instr.makeSlice 29 (.int .i64 ((N + 1 : Nat) : Int)) (.int .i64 ((N + 1 : Nat) : Int))).run Try.prog W = .ok (.slice (some ⟨W.heap.size, 0, none⟩) (N + 1) (N + 1)) (W.alloc (.cells (madeCells #[.int .i64 0] (N + 1)) 3)) := fun W =>
    run_make_row' _ _ (.int .i64 0) 8 Try.underlying29 infoI rfl .i64 .i64 (N + 1) (by omega) (by omega) W
  have mj : ∀ W, (Instr.makeSlice 51 (.int .i64 ((N + 1 : Nat) : Int)) (.int .i64 ((N + 1 : Nat) : Int))).run Try.prog W = .ok (.slice (some ⟨W.heap.size, 0, none⟩) (N + 1) (N + 1)) (W.alloc (.cells (madeCells #[.int .i64 0] (N + 1)) 2)) := fun W =>
    run_make_row' _ _ (.int .i64 0) 8 Try.underlying51 infoJ rfl .i64 .i64 (N + 1) (by omega) (by omega) W
  have HN := Lib.hid h
  clear h
  generalize hM : N + 1 = M at *
  have HM := Lib.hid hM
  clear hM
  go_enter Try.func10, Try.ntmps10
  go_upto_region 3 with (fail)
  go_cut [4] from 12 to 22 (fun v wx => New0 w N v wx)
  case first =>
    go_region_held3 (fun _ => True) (trivial) (fail)
    all_goals go_wp2
    all_goals go_meet
    all_goals (case rel => exact new0_of HM.out (Blk.drew (blk_here (by simp))) (by repeat (first | refine Blk.drew ?_ | (apply blk_here; simp; done) | refine Blk.alloc ?_ _)) (by repeat (first | refine Blk.drew ?_ | (apply blk_here; simp; done) | refine Blk.alloc ?_ _)) (by repeat (first | refine Blk.drew ?_ | (apply blk_here; simp; done) | refine Blk.alloc ?_ _)) (((((Below.refl _ w).alloc (Nat.le_refl _) _).alloc (by simp) _).alloc (by simp; omega) _).alloc (by simp; omega) _).drew (by omega) (by omega) (by omega) (by omega) (by omega))
  case rest =>
    obtain ⟨g, r, rfl, hq, hN, ha, hb, hs, hmv, hmA, hbl⟩ := hcut
    rename World => w1
    subst hN
    have HQ := Lib.hid hq
    have HB := Lib.hid hbl
    have HMV := Lib.hid hmv
    have HMA := Lib.hid hmA
    have HA := Lib.hid (show rk r 0 = r from by
      rcases r with ⟨N, ah, bh, st, mv, at_, met, aA, bA, sA, ac, bc, sc, mA, mc⟩
      dsimp only at ha hb hs
      rw [ha, hb, hs]; rfl)
    clear hq hbl hmv hmA ha hb hs mi mj e1
    have c0 : w1.cell? ⟨g, 0, none⟩ = some (.slice (some ⟨r.aA, 0, none⟩) (r.N + 1) r.ac) := HQ.out.blk.cell 0
    have hNb := HN.out
    go_wp2_with fail
    go_loopw [28] (fun i wr => ∃ k : Nat, k ≤ r.N + 1 ∧ i = .int .i64 k ∧ QuR wr w.heap.size g (rk r k) ∧ Below w.heap.size w wr) (fun i _ => r.N + 1 - (intOf i).toNat)
    case atStart => exact ⟨0, Nat.zero_le _, rfl, by rw [HA.out]; exact HQ.out, HB.out⟩
    case round =>
      clear c0 HB HQ HA
      obtain ⟨k, hk, rfl, hq, hb⟩ := hrel
      have c0 : wr.cell? ⟨g, 0, none⟩ = some (.slice (some ⟨r.aA, 0, none⟩) (r.N + 1) r.ac) := hq.blk.cell 0
      have c1 : wr.cell? ⟨g, 1, none⟩ = some (.slice (some ⟨r.bA, 0, none⟩) (r.N + 1) r.bc) := hq.blk.cell 1
      have c2 : wr.cell? ⟨g, 2, none⟩ = some (.slice (some ⟨r.sA, 0, none⟩) (r.N + 1) r.sc) := hq.blk.cell 2
      obtain ⟨n1, n2, n3, n4, n5⟩ := hq.ga
      have n6 := hq.ne
      have n1 : g ≠ r.aA := n1
      have n2 : g ≠ r.bA := n2
      have n3 : g ≠ r.sA := n3
      have n4 : r.aA ≠ r.sA := n4
      have n5 : r.bA ≠ r.sA := n5
      have n6 : r.aA ≠ r.bA := n6
      have HQ := Lib.hid hq
      have HB := Lib.hid hb
      by_cases hlt : k < r.N + 1
      · have ca : wr.cell? ⟨r.aA, k, none⟩ = some (.int .i64 ((rk r k).ah k)) := hq.a.cell (arr_at (N := r.N) (by omega))
        have cb : wr.cell? ⟨r.bA, k, none⟩ = some (.int .i64 ((rk r k).bh k)) := hq.b.cell (arr_at (N := r.N) (by omega))
        have cs : wr.cell? ⟨r.sA, k, none⟩ = some (.int .i64 ((rk r k).st k)) := hq.s.cell (arr_at (N := r.N) (by omega))
        have fa : wr.frozen? ⟨r.aA, k, none⟩ = false := hq.a.frozen _
        have fb : wr.frozen? ⟨r.bA, k, none⟩ = false := hq.b.frozen _
        have fs : wr.frozen? ⟨r.sA, k, none⟩ = false := hq.s.frozen _
        have m1 : r.aA ≠ g := fun e => n1 e.symm
        have m2 : r.bA ≠ g := fun e => n2 e.symm
        have m3 : r.sA ≠ g := fun e => n3 e.symm
        have m4 : r.sA ≠ r.aA := fun e => n4 e.symm
        have m5 : r.sA ≠ r.bA := fun e => n5 e.symm
        have m6 : r.bA ≠ r.aA := fun e => n6 e.symm
        have HNX := Lib.hid (show QuR ((((wr.setCell ⟨r.aA, k, none⟩ (.int .i64 ((k : Int) - 1))).setCell ⟨r.bA, k, none⟩ (.int .i64 ((k : Int) + 1))).setCell ⟨r.sA, k, none⟩ (.int .i64 (k : Int))).drew) w.heap.size g (rk r (k + 1)) ∧ Below w.heap.size w ((((wr.setCell ⟨r.aA, k, none⟩ (.int .i64 ((k : Int) - 1))).setCell ⟨r.bA, k, none⟩ (.int .i64 ((k : Int) + 1))).setCell ⟨r.sA, k, none⟩ (.int .i64 (k : Int))).drew) from by
          rw [rk_next]
          refine ⟨(((hq.setA (v := k) (by show k ≤ r.N; omega) _).setB (v := k) (by show k ≤ r.N; omega) _).setS (v := k) (by show k ≤ r.N; omega) _).drewN 1, (((hb.setCell (p := ⟨r.aA, k, none⟩) hq.ba _).setCell (p := ⟨r.bA, k, none⟩) hq.bb _).setCell (p := ⟨r.sA, k, none⟩) hq.bs _).drew⟩)
        have e1 : IntKind.i64.wrap ((k : Int) - 1) = (k : Int) - 1 := IntWalk.i64_in _ (by omega)
        have e2 : IntKind.i64.wrap ((k : Int) + 1) = (k : Int) + 1 := IntWalk.i64_in _ (by omega)
        have e3 : IntKind.i64.wrap (k : Int) = (k : Int) := IntWalk.i64_in _ (by omega)
        have k1 : (k : Int) < (r.N : Int) + 1 := by omega
        have k2 : (0 : Int) ≤ (k : Int) := Int.natCast_nonneg _
        clear hq hb
        generalize (rk r k).ah k = x at *
        generalize (rk r k).bh k = y at *
        generalize (rk r k).st k = z at *
        go_wp2_with fail
        go_region_held3 (fun w' => w'.cell? ⟨g, 0, none⟩ = some (.slice (some ⟨r.aA, 0, none⟩) (r.N + 1) r.ac) ∧ w'.cell? ⟨g, 1, none⟩ = some (.slice (some ⟨r.bA, 0, none⟩) (r.N + 1) r.bc) ∧ w'.cell? ⟨g, 2, none⟩ = some (.slice (some ⟨r.sA, 0, none⟩) (r.N + 1) r.sc)) (go_keep) (fail)
        go_wp2
        go_roundw
        case rel => exact ⟨k + 1, by omega, by go_num, HNX.out.1, HNX.out.2⟩
        case measure => simp [intOf]; omega
      · obtain rfl : k = r.N + 1 := by omega
        have ca : wr.cell? ⟨r.aA, 0, none⟩ = some (.int .i64 ((rk r (r.N + 1)).ah 0)) := hq.a.cell (arr_at (N := r.N) (by omega))
        have cb : wr.cell? ⟨r.bA, r.N, none⟩ = some (.int .i64 ((rk r (r.N + 1)).bh r.N)) := hq.b.cell (arr_at (N := r.N) (by omega))
        have fa : wr.frozen? ⟨r.aA, 0, none⟩ = false := hq.a.frozen _
        have fb : wr.frozen? ⟨r.bA, r.N, none⟩ = false := hq.b.frozen _
        have m1 : r.aA ≠ g := fun e => n1 e.symm
        have m2 : r.bA ≠ g := fun e => n2 e.symm
        have m6 : r.bA ≠ r.aA := fun e => n6 e.symm
        have k1 : (r.N : Int) < (r.N : Int) + 1 := by omega
        have k2 : (0 : Int) ≤ (r.N : Int) := Int.natCast_nonneg _
        have k3 : (0 : Int) < (r.N : Int) + 1 := by omega
        have HFN := Lib.hid (show QuR (((wr.setCell ⟨r.aA, 0, none⟩ (.int .i64 (r.N : Int))).setCell ⟨r.bA, r.N, none⟩ (.int .i64 0)).drew) w.heap.size g (rFin r) ∧ Below w.heap.size w (((wr.setCell ⟨r.aA, 0, none⟩ (.int .i64 (r.N : Int))).setCell ⟨r.bA, r.N, none⟩ (.int .i64 0)).drew) from
          ⟨((hq.setA (v := 0) (Nat.zero_le _) _).setB (v := r.N) (Nat.le_refl _) _).drewN 1, ((hb.setCell (p := ⟨r.aA, 0, none⟩) hq.ba _).setCell (p := ⟨r.bA, r.N, none⟩) hq.bb _).drew⟩)
        clear hq hb
        generalize (rk r (r.N + 1)).ah 0 = x at *
        generalize (rk r (r.N + 1)).bh r.N = y at *
        go_wp2_with fail
        go_region_held3 (fun w' => w'.cell? ⟨g, 0, none⟩ = some (.slice (some ⟨r.aA, 0, none⟩) (r.N + 1) r.ac) ∧ w'.cell? ⟨g, 1, none⟩ = some (.slice (some ⟨r.bA, 0, none⟩) (r.N + 1) r.bc)) (go_keep) (fail)
        obtain ⟨W5, hW5⟩ : ∃ W5, W5 = ((wr.setCell ⟨r.aA, 0, none⟩ (.int .i64 (r.N : Int))).setCell ⟨r.bA, r.N, none⟩ (.int .i64 0)).drew := ⟨_, rfl⟩
        rw [← hW5] at HFN ⊢
        clear hW5 ca cb fa fb c0 c1 c2
        by_cases hz : r.N = 0
        · have c1 : W5.cell? ⟨g, 1, none⟩ = some (.slice (some ⟨r.bA, 0, none⟩) (r.N + 1) r.bc) := HFN.out.1.blk.cell 1
          have cb : W5.cell? ⟨r.bA, 0, none⟩ = some (.int .i64 ((rFin r).bh 0)) := HFN.out.1.b.cell (arr_at (N := r.N) (by omega))
          have fb : W5.frozen? ⟨r.bA, 0, none⟩ = false := HFN.out.1.b.frozen _
          have HL := Lib.hid (show QuR (W5.setCell ⟨r.bA, 0, none⟩ (.int .i64 0)) w.heap.size g { rFin r with bh := updI (rFin r).bh 0 0 } ∧ Below w.heap.size w (W5.setCell ⟨r.bA, 0, none⟩ (.int .i64 0)) from ⟨HFN.out.1.setB (v := 0) (Nat.zero_le _) _, HFN.out.2.setCell (p := ⟨r.bA, 0, none⟩) HFN.out.1.bb _⟩)
          have HI := Lib.hid (show Inv (newQ r.N) { rFin r with bh := updI (rFin r).bh 0 0 } from fin_inv HN.out HMV.out HMA.out _ rfl rfl (by
            show updI (rFin r).bh 0 0 = (rFin r).bh
            funext v
            by_cases e : v = 0
            · subst e
              show (if (0 : Nat) = 0 then (0 : Int) else _) = if (0 : Nat) = r.N then (0 : Int) else _
              rw [if_pos rfl, if_pos hz.symm]
            · show (if v = 0 then (0 : Int) else _) = _
              rw [if_neg e]) rfl rfl rfl)
          have hz1 : ((r.N : Int) == 0) = true := by simp [hz]
          clear hz
          go_wp2
          go_ret2
          exact ⟨g, _, rfl, HL.out.1, HI.out, HL.out.2, HMA.out⟩
        · have HI := Lib.hid (show Inv (newQ r.N) (rFin r) from fin_inv HN.out HMV.out HMA.out _ rfl rfl rfl rfl rfl rfl)
          have hz1 : ((r.N : Int) == 0) = false := by simp; omega
          clear hz
          go_wp2
          go_ret2
          exact ⟨g, _, rfl, HFN.out.1, HI.out, HFN.out.2, HMA.out⟩
end Go.Proofs.Ytgldhnjbodmbbaa.Qu
