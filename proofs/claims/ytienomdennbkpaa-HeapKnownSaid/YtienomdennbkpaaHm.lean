/- slices.Clone of rows of numbers; a heap's Copy, New. Conditions: the memory. -/
import Derived.Test.YtienomdennbkpaaHl
import Derived.Test.YtienomdennbkpaaHi
import Derived.Lib.SliceRun
import Derived.Deep.RegionHeld3
namespace Go.Proofs.Ytienomdennbkpaa.He
open Go.RowKit Go.Proofs.Ytienomdennbkpaa.Mem Go.Proofs.Ytienomdennbkpaa.Sl Go.Shelf
open Go.Proofs.Ytienomdennbkpaa.FnL (enc_at below_then)
set_option linter.unusedVariables false

def CloneR (w : World) (t : TypeId) (n : Nat) (xs : List Value) (e : Ending) (w' : World) : Prop := ∃ A c', e = .returned (.slice A n c') ∧ App.Own w' w.heap.size t A n c' xs
theorem clone_int {w : World} (a : Option Addr) (n c : Nat) (xs : List Value) (hn : n = xs.length) (hr : RdV w a xs) (h1 : ∀ u ∈ xs, u.oneCell' = true) (hmn : n ≤ 4000000) :
    Calls Try.prog 33 #[.slice a n c] w fun e w' => CloneR w 3 n xs e w' ∧ Below w.heap.size w w' := by
  rcases a with _ | ad
  · have hl : xs = [] := by
      rcases xs with _ | ⟨y, ys⟩
      · rfl
      · obtain ⟨b, off, e, _⟩ := hr (by simp)
        cases e
    subst hl
    have hn0 : n = 0 := hn
    clear hn hr hmn h1
    subst hn0
    have HF := Lib.hid (show CloneR w 3 0 [] (.returned (.slice none 0 0)) w from ⟨none, 0, rfl, App.Own.nil _ _ _⟩)
    have he1 := fun (W : World) (A : Option Addr) (n c : Nat) => Lib.run_eql_slice_nil (P := Try.prog) W 31 3 A n c 0 0 Try.underlying31
    go_enter Try.func33, Try.ntmps33
    go_wp2
    go_ret
    exact ⟨HF.out, Below.refl _ _⟩
  · obtain ⟨i0, hi⟩ := Option.isSome_iff_exists.1 (show (Try.prog.info? 3).isSome = true by kernel_rfl)
    have hz : (Try.prog.info? 3).map (fun i => (i.zero, i.size, i.bytes)) = some (some (.int .i64 0), 1, 8) := by kernel_rfl
    rw [hi] at hz
    injection hz with hz
    injection hz with hz0 hz
    injection hz with hz1 hz2
    have he1 := fun (W : World) (A : Option Addr) (n c : Nat) => Lib.run_eql_slice_nil (P := Try.prog) W 31 3 A n c 0 0 Try.underlying31
    have HR := Lib.hid hr
    have HN := Lib.hid hn
    have H1 := Lib.hid h1
    clear hr hn h1
    go_enter Try.func33, Try.ntmps33
    have HW := Lib.hid (show Below w.heap.size w (w.alloc (.cells #[] 3)) from (Below.refl _ _).alloc (Nat.le_refl _) _)
    have HOW := Lib.hid fun (v' : Value) (w2 : World) (hown : w2.ownsRow w.heap.size 3 1 v' (0 + n) ([] ++ xs)) => App.Own.of (by rwa [Nat.zero_add, List.nil_append] at hown)
    go_wp2_with (at_builtin; refine App.wpList_app rfl _ _ 31 rfl w.heap.size 3 i0 (.int .i64 0) 8 Try.underlying31 hi hz0 hz1 hz2 rfl (.slice (some ⟨w.heap.size, 0, none⟩) 0 0) 0 [] rfl ((Row.new w 3 []).own (Nat.le_refl _) (by decide) rfl) (some ad) n c xs rfl HN.out (HR.out.below HW.out) (fun h => by cases h) H1.out (by unfold maxLen; omega) (by omega) (by simp) ?_; intro v' w2 hown hgrow; obtain ⟨A, c', rfl, hO⟩ := HOW.out v' w2 hown; have HO := Lib.hid (show CloneR w 3 n xs (.returned (.slice A n c')) w2 from ⟨A, c', rfl, hO⟩); have HB := Lib.hid (show Below w.heap.size w w2 from HW.out.trans ((Mod.grown hgrow).below (fun i _ e => by cases e; exact Nat.le_refl _) (by simp))); clear hown hgrow hO)
    go_ret
    exact ⟨HO.out, HB.out⟩
theorem clone_i64 {w : World} (a : Option Addr) (n c : Nat) (xs : List Value) (hn : n = xs.length) (hr : RdV w a xs) (h1 : ∀ u ∈ xs, u.oneCell' = true) (hmn : n ≤ 4000000) :
    Calls Try.prog 40 #[.slice a n c] w fun e w' => CloneR w 2 n xs e w' ∧ Below w.heap.size w w' := by
  rcases a with _ | ad
  · have hl : xs = [] := by
      rcases xs with _ | ⟨y, ys⟩
      · rfl
      · obtain ⟨b, off, e, _⟩ := hr (by simp)
        cases e
    subst hl
    have hn0 : n = 0 := hn
    clear hn hr hmn h1
    subst hn0
    have HF := Lib.hid (show CloneR w 2 0 [] (.returned (.slice none 0 0)) w from ⟨none, 0, rfl, App.Own.nil _ _ _⟩)
    have he1 := fun (W : World) (A : Option Addr) (n c : Nat) => Lib.run_eql_slice_nil (P := Try.prog) W 22 2 A n c 0 0 Try.underlying22
    go_enter Try.func40, Try.ntmps40
    go_wp2
    go_ret
    exact ⟨HF.out, Below.refl _ _⟩
  · obtain ⟨i0, hi⟩ := Option.isSome_iff_exists.1 (show (Try.prog.info? 2).isSome = true by kernel_rfl)
    have hz : (Try.prog.info? 2).map (fun i => (i.zero, i.size, i.bytes)) = some (some (.int .i64 0), 1, 8) := by kernel_rfl
    rw [hi] at hz
    injection hz with hz
    injection hz with hz0 hz
    injection hz with hz1 hz2
    have he1 := fun (W : World) (A : Option Addr) (n c : Nat) => Lib.run_eql_slice_nil (P := Try.prog) W 22 2 A n c 0 0 Try.underlying22
    have HR := Lib.hid hr
    have HN := Lib.hid hn
    have H1 := Lib.hid h1
    clear hr hn h1
    go_enter Try.func40, Try.ntmps40
    have HW := Lib.hid (show Below w.heap.size w (w.alloc (.cells #[] 2)) from (Below.refl _ _).alloc (Nat.le_refl _) _)
    have HOW := Lib.hid fun (v' : Value) (w2 : World) (hown : w2.ownsRow w.heap.size 2 1 v' (0 + n) ([] ++ xs)) => App.Own.of (by rwa [Nat.zero_add, List.nil_append] at hown)
    go_wp2_with (at_builtin; refine App.wpList_app rfl _ _ 22 rfl w.heap.size 2 i0 (.int .i64 0) 8 Try.underlying22 hi hz0 hz1 hz2 rfl (.slice (some ⟨w.heap.size, 0, none⟩) 0 0) 0 [] rfl ((Row.new w 2 []).own (Nat.le_refl _) (by decide) rfl) (some ad) n c xs rfl HN.out (HR.out.below HW.out) (fun h => by cases h) H1.out (by unfold maxLen; omega) (by omega) (by simp) ?_; intro v' w2 hown hgrow; obtain ⟨A, c', rfl, hO⟩ := HOW.out v' w2 hown; have HO := Lib.hid (show CloneR w 2 n xs (.returned (.slice A n c')) w2 from ⟨A, c', rfl, hO⟩); have HB := Lib.hid (show Below w.heap.size w w2 from HW.out.trans ((Mod.grown hgrow).below (fun i _ e => by cases e; exact Nat.le_refl _) (by simp))); clear hown hgrow hO)
    go_ret
    exact ⟨HO.out, HB.out⟩
theorem own_lt {w : World} {base n c : Nat} {t : TypeId} {A : Option Addr} {xs : List Value} (h : App.Own w base t A n c xs) {i : Nat} (e : A = some ⟨i, 0, none⟩) : base ≤ i ∧ i < w.heap.size := by
  obtain ⟨_, ⟨e2, _⟩ | ⟨g, e2, h1, _, h3⟩⟩ := h
  · rw [e] at e2; cases e2
  · rw [e] at e2; cases e2; exact ⟨h1, h3.lt⟩
theorem copy_nil (w : World) : Calls Try.prog 23 #[.pointer none] w fun e w' => e = .returned (.pointer none) ∧ w = w' := by
  go_enter Try.func23, Try.ntmps23
  go_wp2
  go_ret
  exact ⟨rfl, rfl⟩
def CopyR (w : World) (N : Nat) (m : HM) (e : Ending) (w' : World) : Prop := (∃ q, e = .returned (.pointer (some ⟨q.g, 0, none⟩)) ∧ HL w' w.heap.size N q m) ∧ Below w.heap.size w w'
theorem copy_of {w wf : World} {B N : Nat} {q : HA} {m : HM} (h : HL w B N q m) {AI AP AS : Option Addr} {ci cp cs b1 b2 b3 : Nat}
    (oi : App.Own wf b1 3 AI m.l.length ci (LZ m.l)) (op : App.Own wf b2 3 AP (N + 1) cp (LZ m.pl)) (os : App.Own wf b3 2 AS (N + 1) cs (LZ m.s))
    (h1 : w.heap.size ≤ b1) (h2 : w.heap.size ≤ b2) (h3 : w.heap.size ≤ b3) (hab : ∀ i j, AI = some ⟨i, 0, none⟩ → AP = some ⟨j, 0, none⟩ → i ≠ j) (hb : Below w.heap.size w wf) :
    CopyR w N m (.returned (.pointer (some ⟨wf.heap.size, 0, none⟩))) (wf.alloc (.cells #[.slice AI m.l.length ci, .slice AP (N + 1) cp, .slice AS (N + 1) cs] 56)) := by
  obtain ⟨gp, rfl, kp, rp⟩ := op.row (Nat.succ_pos _)
  obtain ⟨gs, rfl, ks, rs⟩ := os.row (Nat.succ_pos _)
  exact ⟨⟨⟨wf.heap.size, AI, ci, gp, cp, gs, cs⟩, rfl, ⟨Blk.new wf _ _, (oi.low h1).alloc _, rp.alloc _, rs.alloc _, h.hr.ord, h.hr.sl, fun i e => hab i gp e rfl, ⟨hb.size, Nat.le_trans h2 kp, Nat.le_trans h3 ks⟩, h.hr.hN, h.hr.pb⟩, h.hp, h.sb⟩, hb.alloc hb.size _⟩
set_option maxRecDepth 100000 in
set_option maxHeartbeats 8000000 in
theorem hcopy_any {w : World} {B N : Nat} {q : HA} {m : HM} (h : HL w B N q m) :
    Calls Try.prog 23 #[.pointer (some ⟨q.g, 0, none⟩)] w (CopyR w N m) := by
  have hN := h.hr.hN
  have hl := h.hr.lenN
  have c0 : w.cell? ⟨q.g, 0, none⟩ = some (.slice q.iA m.l.length q.ic) := h.hr.blk.cell 0
  have c1 : w.cell? ⟨q.g, 1, none⟩ = some (.slice (some ⟨q.p, 0, none⟩) (N + 1) q.pc) := h.hr.blk.cell 1
  have c2 : w.cell? ⟨q.g, 2, none⟩ = some (.slice (some ⟨q.s, 0, none⟩) (N + 1) q.sc) := h.hr.blk.cell 2
  have HS := Lib.hid (fun W (hb : Below w.heap.size w W) => (show W.cell? ⟨q.g, 0, none⟩ = some (.slice q.iA m.l.length q.ic) ∧ W.cell? ⟨q.g, 1, none⟩ = some (.slice (some ⟨q.p, 0, none⟩) (N + 1) q.pc) ∧ W.cell? ⟨q.g, 2, none⟩ = some (.slice (some ⟨q.s, 0, none⟩) (N + 1) q.sc) from
    ⟨(h.below hb).hr.blk.cell 0, (h.below hb).hr.blk.cell 1, (h.below hb).hr.blk.cell 2⟩))
  have HA := Lib.hid (fun W (hb : Below w.heap.size w W) => clone_int (w := W) q.iA m.l.length q.ic (LZ m.l) (LZ_len _).symm ((h.below hb).hr.inn.rd) one_LZ (by omega))
  have HP := Lib.hid (fun W (hb : Below w.heap.size w W) => clone_int (w := W) (some ⟨q.p, 0, none⟩) (N + 1) q.pc (LZ m.pl) (by rw [LZ_len, h.hr.ord.len]) ((h.below hb).hr.plr.rd) one_LZ (by omega))
  have HT := Lib.hid (fun W (hb : Below w.heap.size w W) => clone_i64 (w := W) (some ⟨q.s, 0, none⟩) (N + 1) q.sc (LZ m.s) (by rw [LZ_len, h.hr.sl]) ((h.below hb).hr.scr.rd) one_LZ (by omega))
  have HI := Lib.hid h
  have B0 := Lib.hid (show Below w.heap.size w w.drew from (Below.refl _ _).drew)
  clear h
  generalize hL : m.l.length = L at *
  have HLL := Lib.hid hL
  clear hL
  go_enter Try.func23, Try.ntmps23
  go_wp2_with fail
  go_region_held3 (fun W => W.cell? ⟨q.g, 0, none⟩ = some (.slice q.iA L q.ic) ∧ W.cell? ⟨q.g, 1, none⟩ = some (.slice (some ⟨q.p, 0, none⟩) (N + 1) q.pc) ∧ W.cell? ⟨q.g, 2, none⟩ = some (.slice (some ⟨q.s, 0, none⟩) (N + 1) q.sc)) (first | exact ⟨c0, c1, c2⟩ | exact yA | exact yP | exact yT | exact HS.out _ (BT.out.alloc BT.out.size _))
    (first
      | (have hba := BA.out
         clear hba
         go_at_call 33
         refine (HP.out wA BA.out).mono ?_
         rintro e wP ⟨⟨AP, cP, rfl, hO⟩, hb⟩
         have OP := Lib.hid hO
         have RP := Lib.hid hb
         have BP := Lib.hid (below_then BA.out hb BA.out.size)
         have yP := HS.out wP BP.out
         clear hO hb)
      | (go_at_call 33
         refine (HA.out w.drew B0.out).mono ?_
         rintro e wA ⟨⟨AA, cA, rfl, hO⟩, hb⟩
         have OA := Lib.hid hO
         have RA := Lib.hid hb
         have BA := Lib.hid (below_then B0.out hb B0.out.size)
         have yA := HS.out wA BA.out
         clear hO hb)
      | (go_at_call 40
         refine (HT.out wP BP.out).mono ?_
         rintro e wT ⟨⟨AT, cT, rfl, hO⟩, hb⟩
         have OT := Lib.hid hO
         have RT := Lib.hid hb
         have BT := Lib.hid (below_then BP.out hb BP.out.size)
         have yT := HS.out wT BT.out
         clear hO hb))
  have HF := Lib.hid (copy_of (w := w) HI.out (HLL.out ▸ ((OA.out.below RP.out).below RT.out)) (OP.out.below RT.out) OT.out (Nat.le_refl _) BA.out.size BP.out.size (fun i j e1 e2 e => by
    have h1 := (own_lt OA.out e1).2
    have h2 := (own_lt OP.out e2).1
    omega) BT.out)
  rw [HLL.out] at HF
  go_wp2
  go_ret
  exact HF.out
theorem new_bad (n : Int) (w : World) (hn : n < 0 ∨ 1048576 < n) :
    Calls Try.prog 9 #[.int .i64 n] w fun e w' => e = .returned (.tuple #[.pointer none, .int .i64 2]) ∧ w = w' := by
  by_cases h0 : n < 0
  · go_enter Try.func9, Try.ntmps9
    go_wp2
    go_ret2
    exact ⟨rfl, rfl⟩
  · have h1 : 1048576 < n := by omega
    go_enter Try.func9, Try.ntmps9
    go_wp2
    go_ret2
    exact ⟨rfl, rfl⟩
def newH (N : Nat) : HM := ⟨[], List.replicate (N + 1) (-1), List.replicate (N + 1) 0⟩
def NewR (w : World) (N : Nat) (e : Ending) (w' : World) : Prop := (∃ q, e = .returned (.tuple #[.pointer (some ⟨q.g, 0, none⟩), .int .i64 0]) ∧ HL w' w.heap.size N q (newH N)) ∧ Below w.heap.size w w'
theorem new_of {w wf : World} {N gp gs cp cs : Nat} (hN : N ≤ 1048576) (rp : Row wf gp 3 (List.replicate (N + 1) (.int .i64 (-1))) cp) (rs : Row wf gs 2 (List.replicate (N + 1) (.int .i64 0)) cs) (hb : Below w.heap.size w wf) (h1 : w.heap.size ≤ gp) (h2 : w.heap.size ≤ gs) :
    NewR w N (.returned (.tuple #[.pointer (some ⟨wf.heap.size, 0, none⟩), .int .i64 0])) (wf.alloc (.cells #[.slice none 0 0, .slice (some ⟨gp, 0, none⟩) (N + 1) cp, .slice (some ⟨gs, 0, none⟩) (N + 1) cs] 56)) :=
  ⟨⟨⟨wf.heap.size, none, 0, gp, cp, gs, cs⟩, rfl, ⟨Blk.new wf _ _, App.Own.nil _ _ _, by have := rp.alloc (.cells #[.slice none 0 0, .slice (some ⟨gp, 0, none⟩) (N + 1) cp, .slice (some ⟨gs, 0, none⟩) (N + 1) cs] 56); unfold newH LZ; rw [List.map_replicate]; exact this, by have := rs.alloc (.cells #[.slice none 0 0, .slice (some ⟨gp, 0, none⟩) (N + 1) cp, .slice (some ⟨gs, 0, none⟩) (N + 1) cs] 56); unfold newH LZ; rw [List.map_replicate]; exact this,
      ⟨by unfold newH; simp, List.nodup_nil, fun x hx => (by cases hx), fun i hi => (by cases hi), fun v hv _ => by unfold newH; simp [List.getD_eq_getElem?_getD, show v < N + 1 by omega]⟩,
      by unfold newH; simp, fun i (e : (none : Option Addr) = _) => (by cases e), ⟨hb.size, h1, h2⟩, hN, fun x hx => by
        have := List.eq_of_mem_replicate (show x ∈ List.replicate (N + 1) (-1 : Int) from hx)
        unfold inI; omega⟩, fun p c _ hc _ => absurd hc (Nat.not_lt_zero _), fun x hx => by
        have := List.eq_of_mem_replicate (show x ∈ List.replicate (N + 1) (0 : Int) from hx)
        omega⟩, hb.alloc hb.size _⟩
theorem infoJ : (Try.prog.info? 2).map (fun i => (i.zero, i.size, i.bytes)) = some (some (.int .i64 0), 1, 8) := by kernel_rfl
theorem mrow (w : World) (M : Nat) : Row (w.alloc (.cells (madeCells #[.int .i64 0] M) 2)) w.heap.size 2 (List.replicate M (.int .i64 0)) M := by
  have h := Row.new w 2 (List.replicate M (.int .i64 0))
  rw [List.length_replicate] at h
  rw [made_one]
  exact h
theorem newA {w w1 : World} {N : Nat} (hN : N ≤ 1048576) {o : Obj} (hr : Row w1 (w.alloc o).heap.size 3 (List.replicate (N + 1) (.int .i64 (-1))) (N + 1)) (hb : Below (w.alloc o).heap.size (w.alloc o) w1) :
    NewR w N (.returned (.tuple #[.pointer (some ⟨w1.heap.size + 1, 0, none⟩), .int .i64 0])) ((w1.alloc (.cells (madeCells #[.int .i64 0] (N + 1)) 2)).alloc (.cells #[.slice none 0 0, .slice (some ⟨w.heap.size + 1, 0, none⟩) (N + 1) (N + 1), .slice (some ⟨w1.heap.size, 0, none⟩) (N + 1) (N + 1)] 56)) := by
  have h0 : Below w.heap.size w (w.alloc o) := (Below.refl _ _).alloc (Nat.le_refl _) _
  have h1 : Below w.heap.size w (w1.alloc (.cells (madeCells #[.int .i64 0] (N + 1)) 2)) := (below_then h0 hb h0.size).alloc (below_then h0 hb h0.size).size _
  rw [World.size_alloc] at hr
  have h2 := new_of (w := w) hN (hr.alloc (.cells (madeCells #[.int .i64 0] (N + 1)) 2)) (mrow w1 (N + 1)) h1 (by omega) (below_then h0 hb h0.size).size
  rw [World.size_alloc] at h2
  exact h2
theorem newB {w w1 : World} {N : Nat} (hN : N ≤ 1048576) {o : Obj} (hr : Row w1 ((w.alloc o).alloc (.cells (madeCells #[.int .i64 0] (N + 1)) 2)).heap.size 3 (List.replicate (N + 1) (.int .i64 (-1))) (N + 1)) (hb : Below ((w.alloc o).alloc (.cells (madeCells #[.int .i64 0] (N + 1)) 2)).heap.size ((w.alloc o).alloc (.cells (madeCells #[.int .i64 0] (N + 1)) 2)) w1) :
    NewR w N (.returned (.tuple #[.pointer (some ⟨w1.heap.size, 0, none⟩), .int .i64 0])) (w1.alloc (.cells #[.slice none 0 0, .slice (some ⟨w.heap.size + 1 + 1, 0, none⟩) (N + 1) (N + 1), .slice (some ⟨w.heap.size + 1, 0, none⟩) (N + 1) (N + 1)] 56)) := by
  have h0 : Below w.heap.size w ((w.alloc o).alloc (.cells (madeCells #[.int .i64 0] (N + 1)) 2)) := ((Below.refl _ _).alloc (Nat.le_refl _) _).alloc (by rw [World.size_alloc]; omega) _
  have hs := (mrow (w.alloc o) (N + 1)).below hb
  rw [World.size_alloc, World.size_alloc] at hr
  rw [World.size_alloc] at hs
  exact new_of (w := w) hN hr hs (below_then h0 hb h0.size) (by omega) (by omega)
theorem newC {w w1 : World} {N : Nat} (hN : N ≤ 1048576) {o : Obj} (hr : Row w1 ((w.alloc (.cells (madeCells #[.int .i64 0] (N + 1)) 2)).alloc o).heap.size 3 (List.replicate (N + 1) (.int .i64 (-1))) (N + 1)) (hb : Below ((w.alloc (.cells (madeCells #[.int .i64 0] (N + 1)) 2)).alloc o).heap.size ((w.alloc (.cells (madeCells #[.int .i64 0] (N + 1)) 2)).alloc o) w1) :
    NewR w N (.returned (.tuple #[.pointer (some ⟨w1.heap.size, 0, none⟩), .int .i64 0])) (w1.alloc (.cells #[.slice none 0 0, .slice (some ⟨w.heap.size + 1 + 1, 0, none⟩) (N + 1) (N + 1), .slice (some ⟨w.heap.size, 0, none⟩) (N + 1) (N + 1)] 56)) := by
  have h0 : Below w.heap.size w ((w.alloc (.cells (madeCells #[.int .i64 0] (N + 1)) 2)).alloc o) := ((Below.refl _ _).alloc (Nat.le_refl _) _).alloc (by rw [World.size_alloc]; omega) _
  have hs := ((mrow w (N + 1)).alloc o).below hb
  rw [World.size_alloc, World.size_alloc] at hr
  exact new_of (w := w) hN hr hs (below_then h0 hb h0.size) (by omega) (by omega)
theorem undrew {B : Nat} {a b : World} (h : Below B a.drew b) : Below B a b := (Below.refl B a).drew.trans h
set_option maxRecDepth 100000 in
set_option maxHeartbeats 8000000 in
theorem new_ok (N : Nat) (h : N ≤ 1048576) (w : World) : Calls Try.prog 9 #[.int .i64 (N : Int)] w (NewR w N) := by
  have p1 : ¬ (N : Int) < 0 := by omega
  have p2 : ¬ 1048576 < (N : Int) := by omega
  have e1 : IntKind.i64.wrap ((N : Int) + 1) = ((N + 1 : Nat) : Int) := by rw [IntWalk.i64_in _ (by omega)]; omega
  have mj : ∀ W, (Instr.makeSlice 22 (.int .i64 ((N + 1 : Nat) : Int)) (.int .i64 ((N + 1 : Nat) : Int))).run Try.prog W = .ok (.slice (some ⟨W.heap.size, 0, none⟩) (N + 1) (N + 1)) (W.alloc (.cells (madeCells #[.int .i64 0] (N + 1)) 2)) := fun W =>
    run_make_row' _ _ (.int .i64 0) 8 Try.underlying22 infoJ rfl .i64 .i64 (N + 1) (by omega) (by omega) W
  have HN := Lib.hid h
  have HREP := Lib.hid (fun (W : World) (b : Nat) => repeat_ok (-1) b (N + 1) W (by omega))
  clear h
  generalize hM : N + 1 = M at *
  have HM := Lib.hid hM
  clear hM
  go_enter Try.func9, Try.ntmps9
  go_wp2_with fail
  go_region_held3 (fun _ => True) (trivial)
    (first
      | (go_at_call 28
         refine (HREP.out _ _ (by simp [go_sem])).mono ?_
         rintro e w1 ⟨rfl, hr1, hb1⟩
         have HR1 := Lib.hid hr1
         have HB1 := Lib.hid hb1
         clear hr1 hb1))
  all_goals go_wp2
  all_goals go_ret2
  all_goals (have hm := HM.out; clear HM; subst hm; first | exact newA HN.out HR1.out (undrew HB1.out) | exact newB HN.out HR1.out (undrew HB1.out) | exact newC HN.out HR1.out (undrew HB1.out))
end Go.Proofs.Ytienomdennbkpaa.He
