/- The document's queue: New. Conditions: the memory, at most 1048576 variables. -/
import Derived.Test.YtgldhnjbodmbbaaQl
namespace Go.Proofs.Ytgldhnjbodmbbaa.Qu
open Go.RowKit Go.Proofs.Ytgldhnjbodmbbaa.Mem Go.Proofs.Ytgldhnjbodmbbaa.Sl Go.Shelf
open Go.Proofs.Ytgldhnjbodmbbaa.FnL (enc_at below_then)
set_option linter.unusedVariables false

theorem own_is {w : World} {base n c i : Nat} {t : TypeId} {A : Option Addr} {xs : List Value} (h : App.Own w base t A n c xs) (hi : some i = (Value.slice A n c).ownBlock) : A = some ⟨i, 0, none⟩ := by
  obtain ⟨hn, ⟨rfl, _⟩ | ⟨g, rfl, h2, _⟩⟩ := h
  · cases hi
  · cases hi; rfl
/-- A row of it has grown; the field is to be turned yet. -/
structure GrR (w : World) (base g : Nat) (d : DR) (A : Option Addr) (n c : Nat) (xs : List Int) : Prop where
  cl : w.cell? ⟨g, 0, none⟩ = some (.slice d.rA d.row.length d.rc)
  fz : w.frozen? ⟨g, 0, none⟩ = false
  done : RqR (w.setCell ⟨g, 0, none⟩ (.slice A n c)) base g { d with rA := A, rc := c, row := xs }
structure GsR (w : World) (base g : Nat) (d : DR) (A : Option Addr) (n c : Nat) (xs : List Int) : Prop where
  cl : w.cell? ⟨g, 1, none⟩ = some (.slice d.sA d.st.length d.sc)
  fz : w.frozen? ⟨g, 1, none⟩ = false
  done : RqR (w.setCell ⟨g, 1, none⟩ (.slice A n c)) base g { d with sA := A, sc := c, st := xs }
theorem RqR.growR {w w' : World} {base g : Nat} {d : DR} (h : RqR w base g d) {A : Option Addr} {n c : Nat} {xs : List Int} (hO : App.Own w' base 3 A n c (LZ xs)) (hg : w.grownBy w' (Value.slice d.rA d.row.length d.rc).ownBlock) : GrR w' base g d A n c xs := by
  have hm := Mod.grown hg
  have hb : Blk w' g _ _ := h.blk.mod hm (fun e => h.nr (own_is h.r e))
  have hs := h.s.mod hm (fun i _ e e2 => h.nrs i (own_is h.r e2) e)
  have hn : n = xs.length := by have := hO.1; rwa [LZ, List.length_map] at this
  subst hn
  refine ⟨hb.cell 0, hb.frozen 0, hb.set_ 0 _, own_far hO (fun e => ?_) _, own_far hs (fun e => ?_) _, h.bg⟩
  · obtain ⟨cs, hb2⟩ := own_blk hO e; exact hb2.ne_ hb (by decide) rfl
  · obtain ⟨cs, hb2⟩ := own_blk hs e; exact hb2.ne_ hb (by decide) rfl
theorem RqR.growS {w w' : World} {base g : Nat} {d : DR} (h : RqR w base g d) {A : Option Addr} {n c : Nat} {xs : List Int} (hO : App.Own w' base 2 A n c (LZ xs)) (hg : w.grownBy w' (Value.slice d.sA d.st.length d.sc).ownBlock) : GsR w' base g d A n c xs := by
  have hm := Mod.grown hg
  have hb : Blk w' g _ _ := h.blk.mod hm (fun e => h.ns (own_is h.s e))
  have hr := h.r.mod hm (fun i _ e e2 => h.nrs i e (own_is h.s e2))
  have hn : n = xs.length := by have := hO.1; rwa [LZ, List.length_map] at this
  subst hn
  refine ⟨hb.cell 1, hb.frozen 1, hb.set_ 1 _, own_far hr (fun e => ?_) _, own_far hO (fun e => ?_) _, h.bg⟩
  · obtain ⟨cs, hb2⟩ := own_blk hr e; exact hb2.ne_ hb (by decide) rfl
  · obtain ⟨cs, hb2⟩ := own_blk hO e; exact hb2.ne_ hb (by decide) rfl
theorem rnew_bad (v : Int) (h : v < 0 ∨ 1048576 < v) (w : World) : Calls Try.prog 18 #[.int .i64 v] w fun e w' => e = .returned (.tuple #[.pointer none, .int .i64 2]) ∧ w = w' := by
  by_cases h1 : v < 0
  · clear h
    go_enter Try.func18, Try.ntmps18
    go_wp2
    go_ret2
    exact ⟨rfl, rfl⟩
  · have h2 : 1048576 < v := by omega
    clear h
    go_enter Try.func18, Try.ntmps18
    go_wp2
    go_ret2
    exact ⟨rfl, rfl⟩
def rowN (k : Nat) : List Int := (List.range k).map fun (v : Nat) => ((v + 1 : Nat) : Int)
def stN (k : Nat) : List Int := (List.range k).map fun (v : Nat) => (v : Int)
theorem rowN_len (k : Nat) : (rowN k).length = k := by simp [rowN]
theorem stN_len (k : Nat) : (stN k).length = k := by simp [stN]
theorem rowN_next (k : Nat) : rowN (k + 1) = rowN k ++ [(k : Int) + 1] := by unfold rowN; rw [List.range_succ, List.map_append]; rfl
theorem stN_next (k : Nat) : stN (k + 1) = stN k ++ [(k : Int)] := by unfold stN; rw [List.range_succ, List.map_append]; rfl
theorem newQ_D {N : Nat} (h : N ≤ 1048576) {d : DR} (h1 : d.row = rowN N) (h2 : d.st = stN (N + 1)) (h3 : d.moved = 0) : DInv (newQ N) d := by
  refine ⟨newQ_w h, ?_, ?_, h3, by show (if 0 ≤ N then ((0 : Nat) : Int) else 0) = 0; rw [if_pos (Nat.zero_le _)]; rfl⟩
  · rw [h1]; unfold rowN rowI newQ; rw [List.map_map]; rfl
  · rw [h2]; unfold stN newQ
    refine List.map_congr_left fun v hv => ?_
    have := List.mem_range.1 hv
    dsimp only
    rw [if_pos (by omega)]
/-- What New of the document's leaves. -/
def RNewR (w : World) (N : Nat) (e : Ending) (w' : World) : Prop := ∃ g d, e = .returned (.tuple #[.pointer (some ⟨g, 0, none⟩), .int .i64 0]) ∧ RqR w' w.heap.size g d ∧ DInv (newQ N) d ∧ Below w.heap.size w w'
theorem rnew_ok (N : Nat) (h : N ≤ 1048576) (w : World) : Calls Try.prog 18 #[.int .i64 (N : Int)] w fun e w' => RNewR w N e w' := by
  have HN := Lib.hid h
  have m1 : ¬ (N : Int) < 0 := by omega
  have m2 : ¬ (1048576 : Int) < (N : Int) := by omega
  obtain ⟨W1, hW1⟩ : ∃ W1, W1 = (w.alloc (.cells #[.int .i64 0] 2)).alloc (.cells #[.slice none 0 0, .slice (some ⟨w.heap.size, 0, none⟩) 1 1, .int .i64 0] 62) := ⟨_, rfl⟩
  have HB1 := Lib.hid (show Below w.heap.size w W1 from hW1 ▸ ((Below.refl _ _).alloc (Nat.le_refl _) _).alloc (by simp) _)
  have HQ1 := Lib.hid (show RqR W1 w.heap.size (w.heap.size + 1) ⟨rowN 0, stN 1, 0, none, 0, some ⟨w.heap.size, 0, none⟩, 1⟩ from by
    have hb := Blk.new (w.alloc (.cells #[.int .i64 0] 2)) 62 #[.slice none 0 0, .slice (some ⟨w.heap.size, 0, none⟩) 1 1, .int .i64 0]
    rw [show (w.alloc (.cells #[.int .i64 0] 2)).heap.size = w.heap.size + 1 from by simp, ← hW1] at hb
    have hr := (Row.new w 2 (LZ [0])).alloc (.cells #[.slice none 0 0, .slice (some ⟨w.heap.size, 0, none⟩) 1 1, .int .i64 0] 62)
    rw [show (w.alloc (.cells (LZ [0]).toArray 2)).alloc (.cells #[.slice none 0 0, .slice (some ⟨w.heap.size, 0, none⟩) 1 1, .int .i64 0] 62) = W1 from hW1.symm] at hr
    exact ⟨hb, App.Own.nil _ _ _, ⟨rfl, .inr ⟨_, rfl, Nat.le_refl _, (by decide : (1 : Nat) ≤ maxLen), hr⟩⟩, by omega⟩)
  have HW1 := Lib.hid hW1.symm
  clear h hW1
  go_enter Try.func18, Try.ntmps18
  go_upto_region 4 with (fail)
  rw [HW1.out]
  go_wp2_with fail
  go_loopw [5] (fun i wr => ∃ (k : Nat) (d : DR), k ≤ N ∧ i = .int .i64 ((k : Int) + 1) ∧ RqR wr w.heap.size (w.heap.size + 1) d ∧ d.row = rowN k ∧ d.st = stN (k + 1) ∧ d.moved = 0 ∧ Below w.heap.size w wr) (fun i _ => N + 1 - (intOf i).toNat)
  case atStart => exact ⟨0, _, Nat.zero_le _, rfl, HQ1.out, rfl, rfl, rfl, HB1.out⟩
  case round =>
    clear HQ1 HB1 HW1
    obtain ⟨k, d, hk, rfl, hq, h1, h2, h3, hb⟩ := hrel
    have HQ := Lib.hid hq
    have HR := Lib.hid h1
    have HS := Lib.hid h2
    have HM := Lib.hid h3
    have HB := Lib.hid hb
    have c0 : wr.cell? ⟨w.heap.size + 1, 0, none⟩ = some (.slice d.rA k d.rc) := by
      have : wr.cell? ⟨w.heap.size + 1, 0, none⟩ = some (.slice d.rA d.row.length d.rc) := hq.blk.cell 0
      rwa [h1, rowN_len] at this
    clear hq h1 h2 h3 hb
    by_cases hlt : k < N
    · have p1 : (k : Int) + 1 ≤ (N : Int) := by omega
      have hNb := HN.out
      have HOR := Lib.hid (show App.Own wr w.heap.size 3 d.rA k d.rc (LZ (rowN k)) from by have := HQ.out.r; rwa [HR.out, rowN_len] at this)
      go_upto_region 8 with (at_builtin; refine wpAppG rfl _ _ rfl w.heap.size d.rA k d.rc (rowN k) rfl (HOR.out.alloc _) (some ⟨wr.heap.size, 0, none⟩) 1 1 [(k : Int) + 1] rfl rfl (one_rd wr ((k : Int) + 1) _) (fun h => by cases h) (by omega) (by simp; have := HB.out.size; omega) (k + 1) rfl ?_; intro A3 c3 w3 hO3 hg3; have HB3 := Lib.hid (Mem.Below.then_mod (HB.out.alloc HB.out.size _) (Mod.grown hg3) (fun i hi e => Nat.not_lt_of_le (HOR.out.block e) hi) (Nat.le_refl _)); have HG3 := Lib.hid ((HQ.out.below ((Below.refl _ _).alloc (Nat.le_refl _) _)).growR hO3 (by rw [HR.out, rowN_len]; exact hg3)); have f3 := HG3.out.fz; have e3 := HG3.out.cl; clear hO3 hg3)
      have HQ4 := Lib.hid HG3.out.done
      have HB4 := Lib.hid (HB3.out.setCell (p := ⟨w.heap.size + 1, 0, none⟩) (Nat.le_succ _) (.slice A3 (k + 1) c3))
      clear HG3 HB3 HQ HB f3 e3 c0
      generalize w3.setCell ⟨w.heap.size + 1, 0, none⟩ (.slice A3 (k + 1) c3) = w4 at *
      have d1 : w4.cell? ⟨w.heap.size + 1, 1, none⟩ = some (.slice d.sA (k + 1) d.sc) := by
        have : w4.cell? ⟨w.heap.size + 1, 1, none⟩ = some (.slice d.sA d.st.length d.sc) := HQ4.out.blk.cell 1
        rwa [HS.out, stN_len] at this
      have HOS := Lib.hid (show App.Own w4 w.heap.size 2 d.sA (k + 1) d.sc (LZ (stN (k + 1))) from by have := HQ4.out.s; dsimp only at this; rwa [HS.out, stN_len] at this)
      go_upto_region 6 with (at_builtin; refine wpAppJ rfl _ _ rfl w.heap.size d.sA (k + 1) d.sc (stN (k + 1)) rfl (HOS.out.alloc _) (some ⟨w4.heap.size, 0, none⟩) 1 1 [(k : Int) + 1] rfl rfl (one_rd w4 ((k : Int) + 1) _) (fun h => by cases h) (by omega) (by simp; have := HB4.out.size; omega) (k + 1 + 1) rfl ?_; intro A5 c5 w5 hO5 hg5; have HB5 := Lib.hid (Mem.Below.then_mod (HB4.out.alloc HB4.out.size _) (Mod.grown hg5) (fun i hi e => Nat.not_lt_of_le (HOS.out.block e) hi) (Nat.le_refl _)); have HG5 := Lib.hid ((HQ4.out.below ((Below.refl _ _).alloc (Nat.le_refl _) _)).growS hO5 (by dsimp only; rw [HS.out, stN_len]; exact hg5)); have f5 := HG5.out.fz; have e5 := HG5.out.cl; clear hO5 hg5)
      have HQ6 := Lib.hid HG5.out.done
      have HB6 := Lib.hid (HB5.out.setCell (p := ⟨w.heap.size + 1, 1, none⟩) (Nat.le_succ _) (.slice A5 (k + 1 + 1) c5))
      have HRN := Lib.hid (show rowN k ++ [(k : Int) + 1] = rowN (k + 1) from (rowN_next k).symm)
      have HSN := Lib.hid (show stN (k + 1) ++ [(k : Int) + 1] = stN (k + 1 + 1) from by rw [stN_next (k + 1)]; rfl)
      clear HG5 HB5 HQ4 HB4 d1 f5 e5
      go_wp2
      go_roundw
      case rel => exact ⟨k + 1, _, by omega, by go_num, HQ6.out, HRN.out, HSN.out, HM.out, HB6.out⟩
      case measure => simp [intOf]; omega
    · obtain rfl : k = N := by omega
      have hNb := HN.out
      have p1 : ¬ (k : Int) + 1 ≤ (k : Int) := by omega
      have HF := Lib.hid (show RNewR w k (.returned (.tuple #[.pointer (some ⟨w.heap.size + 1, 0, none⟩), .int .i64 0])) wr from ⟨_, _, rfl, HQ.out, newQ_D hNb HR.out HS.out HM.out, HB.out⟩)
      go_wp2
      go_ret2
      exact HF.out
end Go.Proofs.Ytgldhnjbodmbbaa.Qu
