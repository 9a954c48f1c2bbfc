/- The walks of of, Save and New of package phase; stores of at most 1000000 variables. -/
import Derived.Test.YtcmicmghnmklnaaPhA
namespace Go.Proofs.Ytcmicmghnmklnaa.Ph
open Go.RowKit Go.Proofs.Ytcmicmghnmklnaa.Mem Go.Proofs.Ytcmicmghnmklnaa.Sl Go.Shelf
set_option linter.unusedVariables false

theorem infoI8 : (Try.prog.info? 67).map (fun i => (i.zero, i.size, i.bytes)) = some (some (.int .i8 0), 1, 1) := by kernel_rfl
def put (r : List Int) (x : Int) : List Int := if 0 < x then r.set (x.toNat - 1) 1 else r.set ((-x).toNat - 1) (-1)
def rowOf (l : List Int) (N : Nat) : List Int := l.foldl put (List.replicate N 0)
theorem put_len (r : List Int) (x : Int) : (put r x).length = r.length := by unfold put; split <;> simp
theorem foldl_put_len (l : List Int) : ∀ r, (l.foldl put r).length = r.length := by
  induction l with
  | nil => intro r; rfl
  | cons x xs ih => intro r; rw [List.foldl_cons, ih, put_len]
theorem rowOf_len (l : List Int) (N : Nat) : (rowOf l N).length = N := by rw [rowOf, foldl_put_len, List.length_replicate]
theorem rowOf_snoc (l : List Int) (N k : Nat) (h : k < l.length) : rowOf (l.take (k + 1)) N = put (rowOf (l.take k) N) (l.getD k 0) := by
  rw [List.take_succ_eq_append_getElem h]
  unfold rowOf
  rw [List.foldl_append]
  simp [List.getD_eq_getElem?_getD, h]
/-- All literals are of its variables. -/
def Fits (N : Nat) (l : List Int) : Prop := ∀ k, k < l.length → l.getD k 0 ≠ 0 ∧ l.getD k 0 ≤ N ∧ -(N : Int) ≤ l.getD k 0
theorem fits_of_may {N : Nat} {l : List Int} (h : mayB N l = true) : Fits N l := by
  intro k hk
  unfold mayB at h
  rw [Bool.not_eq_true', List.any_eq_false] at h
  have hm : l.getD k 0 ∈ l := by simp [List.getD_eq_getElem?_getD, hk]
  have := h _ hm
  unfold out at this
  simp only [Bool.or_eq_true, beq_iff_eq, decide_eq_true_eq, not_or, Int.not_lt] at this
  exact ⟨this.1, this.2.1, this.2.2⟩
set_option maxRecDepth 100000 in
theorem of_ok (a : Option Addr) (cap : Nat) (l : List Int) (n N : Nat) (hn : n = l.length) (hm : n ≤ 140737488351232) (hN : N ≤ 1000000) (w : World) (hr : RdV w a (l.map (Value.int .i32))) (hf : Fits N l) :
    Calls Try.prog 26 #[.slice a n cap, .int .i64 N] w fun e w' => ∃ g, e = .returned (.agg #[.int .i64 n, .slice (some ⟨g, 0, none⟩) N N]) ∧ w.heap.size ≤ g ∧ Blk w' g 67 ((rowOf l N).map (Value.int .i8)).toArray ∧ Below w.heap.size w w' := by
  have hmk : ∀ W, (Instr.makeSlice 58 (.int .i64 (N : Int)) (.int .i64 (N : Int))).run Try.prog W = .ok (.slice (some ⟨W.heap.size, 0, none⟩) N N) (W.alloc (.cells (madeCells #[.int .i8 0] N) 67)) := fun W =>
    run_make_row' _ _ (.int .i8 0) 1 Try.underlying58 infoI8 rfl .i64 .i64 N (by omega) (by omega) W
  have HR := Lib.hid hr
  have HN := Lib.hid hn
  have HF := Lib.hid hf
  clear hr hn hf
  go_enter Try.func26, Try.ntmps26
  go_upto_region 2 with (fail)
  obtain ⟨W, hW⟩ : ∃ W, W = ((w.alloc (.cells #[.int .i64 0, .slice none 0 0] 60)).alloc (.cells (madeCells #[.int .i8 0] N) 67)).alloc (.cells #[.int .i64 n, .slice (some ⟨w.heap.size + 1, 0, none⟩) N N] 60) := ⟨_, rfl⟩
  rw [← hW]
  have h1 := Blk.new w 60 #[.int .i64 0, .slice none 0 0]
  have h2 := Blk.new (w.alloc (.cells #[.int .i64 0, .slice none 0 0] 60)) 67 (madeCells #[.int .i8 0] N)
  have h3 := Blk.new ((w.alloc (.cells #[.int .i64 0, .slice none 0 0] 60)).alloc (.cells (madeCells #[.int .i8 0] N) 67)) 60 #[.int .i64 n, .slice (some ⟨w.heap.size + 1, 0, none⟩) N N]
  rw [World.size_alloc] at h2
  rw [World.size_alloc, World.size_alloc] at h3
  have K1 := Lib.hid (show Blk W w.heap.size 60 #[.int .i64 0, .slice none 0 0] from hW ▸ (h1.alloc _).alloc _)
  have K2 := Lib.hid (show Blk W (w.heap.size + 1) 67 ((rowOf (l.take 0) N).map (Value.int .i8)).toArray by
    rw [hW, List.take_zero]
    rw [made_one] at h2
    simpa [rowOf, made_one] using h2.alloc _)
  have K3 := Lib.hid (show Blk W (w.heap.size + 1 + 1) 60 #[.int .i64 n, .slice (some ⟨w.heap.size + 1, 0, none⟩) N N] from hW ▸ h3)
  have KB := Lib.hid (show Below w.heap.size w W from hW ▸ (((Below.refl _ w).alloc (Nat.le_refl _) _).alloc (by simp) _).alloc (by simp; omega) _)
  clear h1 h2 h3 hW hmk
  generalize hB : w.heap.size = B at *
  have HBB := Lib.hid hB
  clear hB
  go_wp2_with fail
  go_loopw [7, 15] (fun x i wr => ∃ k : Nat, k ≤ n ∧ i = .int .i64 k ∧ Blk wr B 60 #[.int .i64 0, .slice none 0 0] ∧ Blk wr (B + 1) 67 ((rowOf (l.take k) N).map (Value.int .i8)).toArray ∧
    Blk wr (B + 1 + 1) 60 #[.int .i64 n, .slice (some ⟨B + 1, 0, none⟩) N N] ∧ Below B w wr) (fun _ i _ => n - (intOf i).toNat)
  case atStart => exact ⟨0, Nat.zero_le _, rfl, K1.out, K2.out, K3.out, KB.out⟩
  case round =>
    obtain ⟨k, hk, rfl, k1, k2, k3, kb⟩ := hrel
    have L1 := Lib.hid k1
    have L2 := Lib.hid k2
    have L3 := Lib.hid k3
    have LB := Lib.hid kb
    by_cases hlt : k < n
    · have hkl : k < l.length := by rw [← HN.out]; exact hlt
      obtain ⟨b, off, ha, hb, hc⟩ := RdV.at_ (RdV.below HR.out (HBB.out ▸ kb)) (ints_at (k := .i32) hkl)
      subst ha
      obtain ⟨hx0, hx1, hx2⟩ := HF.out k hkl
      have HS := Lib.hid (rowOf_snoc l N k hkl)
      have HL := Lib.hid (rowOf_len (l.take k) N)
      generalize l.getD k 0 = x at *
      generalize rowOf (l.take k) N = r at *
      have c3 : wr.cell? ⟨B + 1 + 1, 1, none⟩ = some (.slice (some ⟨B + 1, 0, none⟩) N N) := k3.cell 1
      have f2 : ∀ i, wr.frozen? ⟨B + 1, i, none⟩ = false := fun i => k2.frozen i
      have g2 : ∀ i, i < N → wr.cell? ⟨B + 1, i, none⟩ = some (.int .i8 (r.getD i 0)) := fun i hi => by
        rw [k2.cell i]; simp [List.getD_eq_getElem?_getD, show i < r.length by rw [HL.out]; exact hi]
      have G2 := Lib.hid g2
      clear k1 k2 k3 kb hkl g2
      by_cases hp : 0 < x
      · have hset := Lib.hid (show put r x = r.set (x.toNat - 1) 1 by unfold put; rw [if_pos hp])
        have c4 : wr.cell? ⟨B + 1, x.toNat - 1, none⟩ = some (.int .i8 (r.getD (x.toNat - 1) 0)) := G2.out _ (by omega)
        have f4 : wr.frozen? ⟨B + 1, x.toNat - 1, none⟩ = false := f2 _
        clear f2
        have i1 : (0 : Int) ≤ x - 1 := by omega
        have i2 : x - 1 < (N : Int) := by omega
        have i3 : IntKind.i32.wrap (x - 1) = x - 1 := IntWalk.i32_in _ (by omega)
        go_wp2
        go_roundw
        case rel =>
          refine ⟨k + 1, by omega, by go_num, Blk.far L1.out (by simp) _, ?_, Blk.far L3.out (by simp) _, LB.out.setCell (by simp) _⟩
          rw [HS.out, hset.out]
          have := Blk.set_ L2.out (x.toNat - 1) (.int .i8 1)
          simpa [List.map_set] using this
        case measure => simp [intOf]; omega
      · have hset := Lib.hid (show put r x = r.set ((-x).toNat - 1) (-1) by unfold put; rw [if_neg hp])
        have c4 : wr.cell? ⟨B + 1, (-x).toNat - 1, none⟩ = some (.int .i8 (r.getD ((-x).toNat - 1) 0)) := G2.out _ (by omega)
        have f4 : wr.frozen? ⟨B + 1, (-x).toNat - 1, none⟩ = false := f2 _
        clear f2
        have i1 : (0 : Int) ≤ -x - 1 := by omega
        have i2 : -x - 1 < (N : Int) := by omega
        have i3 : IntKind.i32.wrap (-x) = -x := IntWalk.i32_in _ (by omega)
        have i4 : IntKind.i32.wrap (-x - 1) = -x - 1 := IntWalk.i32_in _ (by omega)
        go_wp2
        go_roundw
        case rel =>
          refine ⟨k + 1, by omega, by go_num, Blk.far L1.out (by simp) _, ?_, Blk.far L3.out (by simp) _, LB.out.setCell (by simp) _⟩
          rw [HS.out, hset.out]
          have := Blk.set_ L2.out ((-x).toNat - 1) (.int .i8 (-1))
          simpa [List.map_set] using this
        case measure => simp [intOf]; omega
    · have hkn : k = n := by omega
      have HT := Lib.hid (show l.take k = l from List.take_of_length_le (by rw [← HN.out]; omega))
      have c30 : wr.cell? ⟨B + 1 + 1, 0, none⟩ = some (.int .i64 n) := k3.cell 0
      have c31 : wr.cell? ⟨B + 1 + 1, 1, none⟩ = some (.slice (some ⟨B + 1, 0, none⟩) N N) := k3.cell 1
      have c10 : wr.cell? ⟨B, 0, none⟩ = some (.int .i64 0) := k1.cell 0
      have c11 : wr.cell? ⟨B, 1, none⟩ = some (.slice none 0 0) := k1.cell 1
      have f10 : wr.frozen? ⟨B, 0, none⟩ = false := k1.frozen 0
      have f11 : wr.frozen? ⟨B, 1, none⟩ = false := k1.frozen 1
      clear k1 k2 k3 kb hkn
      go_wp2
      have E1 := Blk.set_ (Blk.set_ L1.out 0 (.int .i64 n)) 1 (.slice (some ⟨B + 1, 0, none⟩) N N)
      refine bodyPost_ret (results_cell_row (ty := 60) rfl _ _ B 60 #[.int .i64 n, .slice (some ⟨B + 1, 0, none⟩) N N] (0, 0) _ rfl E1 Try.underlying60 rfl (by kernel_rfl)) rfl ?_
      refine ⟨B + 1, rfl, by rw [HBB.out]; omega, ?_, by rw [HBB.out]; exact (LB.out.setCell (by simp) _).setCell (by simp) _⟩
      rw [← HT.out]
      exact Blk.far (Blk.far L2.out (by simp) _) (by simp) _
end Go.Proofs.Ytcmicmghnmklnaa.Ph
