/- Queue: Copy. Conditions: the memory, at most 1048576 variables. -/
import Derived.Test.YtgldhnjbodmbbaaQe
import Derived.Deep.RegionHeld3
namespace Go.Proofs.Ytgldhnjbodmbbaa.Qu
open Go.RowKit Go.Proofs.Ytgldhnjbodmbbaa.Mem Go.Proofs.Ytgldhnjbodmbbaa.Sl Go.Shelf
open Go.Proofs.Ytgldhnjbodmbbaa.FnL (enc_at below_then)
set_option linter.unusedVariables false

/-- A copy of a slice of bools: nil is copied to nil. -/
def CloneM (w : World) (a : Option Addr) (n : Nat) (xs : List Value) (e : Ending) (w' : World) : Prop := ∃ A c', e = .returned (.slice A n c') ∧ App.Own w' w.heap.size 4 A n c' xs ∧ (a = none → A = none)
theorem clone_met {w : World} (a : Option Addr) (n c : Nat) (xs : List Value) (hn : n = xs.length) (hr : RdV w a xs) (h1 : ∀ u ∈ xs, u.oneCell' = true) (hmn : n ≤ 4000000) :
    Calls Try.prog 30 #[.slice a n c] w fun e w' => CloneM w a n xs e w' ∧ Below w.heap.size w w' := by
  rcases a with _ | ad
  · have hl : xs = [] := by
      rcases xs with _ | ⟨y, ys⟩
      · rfl
      · obtain ⟨b, off, e, _⟩ := hr (by simp)
        cases e
    subst hl
    have hn0 : n = 0 := hn
    clear hn hr hmn h1
    subst hn0
    have HF := Lib.hid (show CloneM w none 0 [] (.returned (.slice none 0 0)) w from ⟨none, 0, rfl, App.Own.nil _ _ _, fun _ => rfl⟩)
    have he1 := fun (W : World) (A : Option Addr) (n c : Nat) => Lib.run_eql_slice_nil (P := Try.prog) W 31 4 A n c 0 0 Try.underlying31
    go_enter Try.func30, Try.ntmps30
    go_wp2
    go_ret
    exact ⟨HF.out, Below.refl _ _⟩
  · refine (clone_bool (some ad) n c xs hn hr h1 hmn).mono ?_
    rintro e w' ⟨⟨A, c', rfl, hO⟩, hb⟩
    exact ⟨⟨A, c', rfl, hO, fun e => by cases e⟩, hb⟩
theorem copy_nil (w : World) : Calls Try.prog 19 #[.pointer none] w fun e w' => e = .returned (.pointer none) ∧ w = w' := by
  go_enter Try.func19, Try.ntmps19
  go_wp2
  go_ret
  exact ⟨rfl, rfl⟩
def CopyR (w : World) (m : QM) (e : Ending) (w' : World) : Prop := ∃ g r, e = .returned (.pointer (some ⟨g, 0, none⟩)) ∧ QuR w' w.heap.size g r ∧ Inv m r ∧ r.met.length ≤ 4000000
theorem arr_one {N : Nat} {f : Nat → Int} : ∀ u ∈ arr N f, u.oneCell' = true := fun u hu => by
  obtain ⟨x, _, rfl⟩ := List.mem_map.1 hu; rfl
theorem copy_of {w wf : World} {m : QM} {r : QR} (hi : Inv m r) {AA AB AS AM : Option Addr} {ca cb cs cm b1 b2 b3 b4 : Nat}
    (oa : App.Own wf b1 3 AA (r.N + 1) ca (arr r.N r.ah)) (ob : App.Own wf b2 3 AB (r.N + 1) cb (arr r.N r.bh)) (os : App.Own wf b3 2 AS (r.N + 1) cs (arr r.N r.st)) (om : App.Own wf b4 4 AM r.met.length cm (r.met.map Value.bool))
    (h1 : w.heap.size ≤ b1) (h2 : w.heap.size ≤ b2) (h3 : w.heap.size ≤ b3) (h4 : w.heap.size ≤ b4) (hab : ∀ i j, AA = some ⟨i, 0, none⟩ → AB = some ⟨j, 0, none⟩ → i ≠ j) (hm : r.mA = none → AM = none) (hb : Below w.heap.size w wf) (hml : r.met.length ≤ 4000000) :
    CopyR w m (.returned (.pointer (some ⟨wf.heap.size, 0, none⟩))) (wf.alloc (.cells #[.slice AA (r.N + 1) ca, .slice AB (r.N + 1) cb, .slice AS (r.N + 1) cs, .int .i64 r.moved, .int .i64 r.at_, .slice AM r.met.length cm] 53)) ∧ Below w.heap.size w (wf.alloc (.cells #[.slice AA (r.N + 1) ca, .slice AB (r.N + 1) cb, .slice AS (r.N + 1) cs, .int .i64 r.moved, .int .i64 r.at_, .slice AM r.met.length cm] 53)) := by
  obtain ⟨ga, rfl, ka, ra⟩ := oa.row (Nat.succ_pos _)
  obtain ⟨gb, rfl, kb, rb⟩ := ob.row (Nat.succ_pos _)
  obtain ⟨gs, rfl, ks, rs⟩ := os.row (Nat.succ_pos _)
  refine ⟨⟨_, { r with aA := ga, bA := gb, sA := gs, ac := ca, bc := cb, sc := cs, mA := AM, mc := cm }, rfl, ⟨Blk.new wf _ _, ra.alloc _, rb.alloc _, rs.alloc _, (om.low h4).alloc _, hab _ _ rfl rfl, hb.size, Nat.le_trans h1 ka, Nat.le_trans h2 kb, Nat.le_trans h3 ks⟩, ⟨hi.w, hi.N, hi.st, hi.moved, hi.lk, fun e => hi.ans (fun e2 => e (hm e2))⟩, hml⟩, hb.alloc hb.size _⟩
set_option maxRecDepth 100000 in
set_option maxHeartbeats 8000000 in
theorem copy_any {w : World} {base g : Nat} {m : QM} {r : QR} (h : QuR w base g r) (hi : Inv m r) (hml : r.met.length ≤ 4000000) :
    Calls Try.prog 19 #[.pointer (some ⟨g, 0, none⟩)] w fun e w' => CopyR w m e w' ∧ Below w.heap.size w w' := by
  have hN : r.N ≤ 1048576 := by rw [hi.N]; exact hi.w.N
  have c0 : w.cell? ⟨g, 0, none⟩ = some (.slice (some ⟨r.aA, 0, none⟩) (r.N + 1) r.ac) := h.blk.cell 0
  have c1 : w.cell? ⟨g, 1, none⟩ = some (.slice (some ⟨r.bA, 0, none⟩) (r.N + 1) r.bc) := h.blk.cell 1
  have c2 : w.cell? ⟨g, 2, none⟩ = some (.slice (some ⟨r.sA, 0, none⟩) (r.N + 1) r.sc) := h.blk.cell 2
  have c3 : w.cell? ⟨g, 3, none⟩ = some (.int .i64 r.moved) := h.blk.cell 3
  have c4 : w.cell? ⟨g, 4, none⟩ = some (.int .i64 r.at_) := h.blk.cell 4
  have c5 : w.cell? ⟨g, 5, none⟩ = some (.slice r.mA r.met.length r.mc) := h.blk.cell 5
  have HS := Lib.hid (fun W (hb : Below w.heap.size w W) => (show W.cell? ⟨g, 0, none⟩ = some (.slice (some ⟨r.aA, 0, none⟩) (r.N + 1) r.ac) ∧ W.cell? ⟨g, 1, none⟩ = some (.slice (some ⟨r.bA, 0, none⟩) (r.N + 1) r.bc) ∧ W.cell? ⟨g, 2, none⟩ = some (.slice (some ⟨r.sA, 0, none⟩) (r.N + 1) r.sc) ∧ W.cell? ⟨g, 3, none⟩ = some (.int .i64 r.moved) ∧ W.cell? ⟨g, 4, none⟩ = some (.int .i64 r.at_) ∧ W.cell? ⟨g, 5, none⟩ = some (.slice r.mA r.met.length r.mc) from
    ⟨(h.below hb).blk.cell 0, (h.below hb).blk.cell 1, (h.below hb).blk.cell 2, (h.below hb).blk.cell 3, (h.below hb).blk.cell 4, (h.below hb).blk.cell 5⟩))
  have HA := Lib.hid (fun W (hb : Below w.heap.size w W) => clone_int (w := W) (some ⟨r.aA, 0, none⟩) (r.N + 1) r.ac (arr r.N r.ah) (arr_len _ _).symm ((h.below hb).a.rd) arr_one (by omega))
  have HB := Lib.hid (fun W (hb : Below w.heap.size w W) => clone_int (w := W) (some ⟨r.bA, 0, none⟩) (r.N + 1) r.bc (arr r.N r.bh) (arr_len _ _).symm ((h.below hb).b.rd) arr_one (by omega))
  have HT := Lib.hid (fun W (hb : Below w.heap.size w W) => clone_i64 (w := W) (some ⟨r.sA, 0, none⟩) (r.N + 1) r.sc (arr r.N r.st) (arr_len _ _).symm ((h.below hb).s.rd) arr_one (by omega))
  have HM := Lib.hid (fun W (hb : Below w.heap.size w W) => clone_met (w := W) r.mA r.met.length r.mc (r.met.map Value.bool) (by simp) ((h.below hb).met.rd) (fun u hu => by obtain ⟨x, _, rfl⟩ := List.mem_map.1 hu; rfl) hml)
  have HI := Lib.hid hi
  have B0 := Lib.hid (show Below w.heap.size w w.drew from (Below.refl _ _).drew)
  clear h hi
  go_enter Try.func19, Try.ntmps19
  go_wp2_with fail
  go_region_held3 (fun W => W.cell? ⟨g, 0, none⟩ = some (.slice (some ⟨r.aA, 0, none⟩) (r.N + 1) r.ac) ∧ W.cell? ⟨g, 1, none⟩ = some (.slice (some ⟨r.bA, 0, none⟩) (r.N + 1) r.bc) ∧ W.cell? ⟨g, 2, none⟩ = some (.slice (some ⟨r.sA, 0, none⟩) (r.N + 1) r.sc) ∧ W.cell? ⟨g, 3, none⟩ = some (.int .i64 r.moved) ∧ W.cell? ⟨g, 4, none⟩ = some (.int .i64 r.at_) ∧ W.cell? ⟨g, 5, none⟩ = some (.slice r.mA r.met.length r.mc)) (first | exact ⟨c0, c1, c2, c3, c4, c5⟩ | exact yA | exact yB | exact yT | exact yM | exact HS.out _ (BM.out.alloc BM.out.size _))
    (first
      | (have hba := BA.out
         clear hba
         go_at_call 24
         refine (HB.out wA BA.out).mono ?_
         rintro e wB ⟨⟨AB, cB, rfl, hO⟩, hb⟩
         have OB := Lib.hid hO
         have RB := Lib.hid hb
         have BB := Lib.hid (below_then BA.out hb BA.out.size)
         have yB := HS.out wB BB.out
         clear hO hb)
      | (go_at_call 24
         refine (HA.out w.drew B0.out).mono ?_
         rintro e wA ⟨⟨AA, cA, rfl, hO⟩, hb⟩
         have OA := Lib.hid hO
         have RA := Lib.hid hb
         have BA := Lib.hid (below_then B0.out hb B0.out.size)
         have yA := HS.out wA BA.out
         clear hO hb)
      | (go_at_call 31
         refine (HT.out wB BB.out).mono ?_
         rintro e wT ⟨⟨AT, cT, rfl, hO⟩, hb⟩
         have OT := Lib.hid hO
         have RT := Lib.hid hb
         have BT := Lib.hid (below_then BB.out hb BB.out.size)
         have yT := HS.out wT BT.out
         clear hO hb)
      | (go_at_call 30
         refine (HM.out wT BT.out).mono ?_
         rintro e wM ⟨⟨AM, cM, rfl, hO, hnn⟩, hb⟩
         have OM := Lib.hid hO
         have NM := Lib.hid hnn
         have RM := Lib.hid hb
         have BM := Lib.hid (below_then BT.out hb BT.out.size)
         have yM := HS.out wM BM.out
         clear hO hb hnn))
  have HF := Lib.hid (copy_of (w := w) HI.out (((OA.out.below RB.out).below RT.out).below RM.out) ((OB.out.below RT.out).below RM.out) (OT.out.below RM.out) OM.out (Nat.le_refl _) BA.out.size BB.out.size BT.out.size (fun i j e1 e2 e => by
    have h1 := (own_lt OA.out e1).2
    have h2 := (own_lt OB.out e2).1
    omega) NM.out BM.out hml)
  go_wp2
  go_ret
  exact HF.out
end Go.Proofs.Ytgldhnjbodmbbaa.Qu
