/- The walks of Draw and the turns' four of package phase. -/
import Derived.Test.YtcmicmghnmklnaaPhE
import Derived.Laws.Bits64
import Derived.Laws.Bits64b
import Derived.Sort.Row
namespace Go.Proofs.Ytcmicmghnmklnaa.Ph
open Go.RowKit Go.Proofs.Ytcmicmghnmklnaa.Mem Go.Proofs.Ytcmicmghnmklnaa.Sl Go.Shelf
set_option linter.unusedVariables false

/-- The next number that is drawn. -/
def nextN (x : Nat) : Nat :=
  let a := x ^^^ (x * 8192 % 18446744073709551616)
  let b := a ^^^ (a / 128)
  b ^^^ (b * 131072 % 18446744073709551616)
theorem setCell_twice (w : World) (blk off : Nat) (v v' : Value) : (w.setCell ⟨blk, off, none⟩ v).setCell ⟨blk, off, none⟩ v' = w.setCell ⟨blk, off, none⟩ v' := by
  rw [Go.Sort.setCell_eq, Go.Sort.setCell_eq, Go.Sort.mapBlock_mapBlock, Go.Sort.setCell_eq]
  congr 1
  funext c
  simp
/-- Walked as the library's own xorshift is (Derived.Sort.Walk7a). -/
theorem draw_walk (g X : Nat) (hX : X < 18446744073709551616) (w : World) (hc : w.cell? ⟨g, 6, none⟩ = some (.int .u64 X)) (hf : w.frozen? ⟨g, 6, none⟩ = false) :
    Calls Try.prog 17 #[.pointer (some ⟨g, 0, none⟩)] w fun e w' => e = .returned (.int .u64 (nextN X : Nat)) ∧ w' = (w.setCell ⟨g, 6, none⟩ (.int .u64 (nextN X : Nat))).drewN 3 := by
  obtain ⟨A, hA⟩ : ∃ A : Nat, A = X ^^^ (X * 8192 % 18446744073709551616) := ⟨_, rfl⟩
  obtain ⟨B, hB⟩ : ∃ B : Nat, B = A ^^^ (A / 128) := ⟨_, rfl⟩
  obtain ⟨C, hC⟩ : ∃ C : Nat, C = B ^^^ (B * 131072 % 18446744073709551616) := ⟨_, rfl⟩
  have lA : A < 18446744073709551616 := by rw [hA]; exact Nat.xor_lt_two_pow (n := 64) (by omega) (by omega)
  have lB : B < 18446744073709551616 := by rw [hB]; exact Nat.xor_lt_two_pow (n := 64) (by omega) (by omega)
  have e1 : bits .xor .u64 (X : Int) (IntKind.u64.wrap ((X : Int) * 8192)) = (A : Int) := by
    rw [IntKind.wrap_u64, show ((X : Int) * 8192 % 18446744073709551616) = ((X * 8192 % 18446744073709551616 : Nat) : Int) by omega, bits_xor_u64_nat _ _ hX (by omega), hA]
  have e2 : bits .xor .u64 (A : Int) ((A : Int) / 128) = (B : Int) := by
    rw [show ((A : Int) / 128) = ((A / 128 : Nat) : Int) by omega, bits_xor_u64_nat _ _ lA (by omega), hB]
  have e3 : bits .xor .u64 (B : Int) (IntKind.u64.wrap ((B : Int) * 131072)) = (C : Int) := by
    rw [IntKind.wrap_u64, show ((B : Int) * 131072 % 18446744073709551616) = ((B * 131072 % 18446744073709551616 : Nat) : Int) by omega, bits_xor_u64_nat _ _ lB (by omega), hC]
  have hv : nextN X = C := by unfold nextN; simp only []; rw [← hA, ← hB, ← hC]
  rw [hv]
  clear hA hB hC hv
  have hss : ∀ v v', (w.setCell ⟨g, 6, none⟩ v).setCell ⟨g, 6, none⟩ v' = w.setCell ⟨g, 6, none⟩ v' := setCell_twice w g 6
  go_enter Try.func17, Try.ntmps17
  go_wp2
  go_region
  all_goals go_wp2
  all_goals go_region
  all_goals go_wp2
  all_goals go_region
  all_goals go_wp2
  go_ret
  exact ⟨rfl, rfl⟩
theorem nextN_lt (x : Nat) (h : x < 18446744073709551616) : nextN x < 18446744073709551616 := by
  unfold nextN
  have hA : x ^^^ (x * 8192 % 18446744073709551616) < 18446744073709551616 := Nat.xor_lt_two_pow (n := 64) (by omega) (by omega)
  simp only []
  generalize x ^^^ (x * 8192 % 18446744073709551616) = a at *
  have hB : a ^^^ (a / 128) < 18446744073709551616 := Nat.xor_lt_two_pow (n := 64) (by omega) (by omega)
  generalize a ^^^ (a / 128) = b at *
  exact Nat.xor_lt_two_pow (n := 64) (by omega) (by omega)
theorem Ph.state {w w' : World} {B g : Nat} {p : PV} (h : Ph w B g p) (hm : Mod (fun i => i = g) w w') (s : Int) (h0 : 0 ≤ s) (h1 : s ≤ 18446744073709551615) (hb : Blk w' g 62 (PhC { p with state := s })) : Ph w' B g { p with state := s } :=
  ⟨hb, h.row.mod hm (fun e => h.row.ne_blk h.blk (by decide) e), h.bg, h.bs, h.t.mod hm (fun i _ cs hc => h.ne_i8 hc), h.b.mod hm (fun i _ cs hc => h.ne_i8 hc), h.len, h0, h1, h.tu0, h.tn0, h.bn0⟩
/-- The state behind a draw. -/
def drawM (m : PM) : PM := { m with state := (nextN m.state.toNat : Nat) }
def Drawn (w : World) (B g : Nat) (p : PV) (w' : World) : Prop := Ph w' B g { p with state := (nextN p.state.toNat : Nat) } ∧ Mod (fun i => i = g) w w'
theorem draw_ok {w : World} {B g : Nat} {p : PV} (h : Ph w B g p) :
    Calls Try.prog 17 #[.pointer (some ⟨g, 0, none⟩)] w fun e w' => e = .returned (.int .u64 (nextN p.state.toNat : Nat)) ∧ Drawn w B g p w' := by
  have hs0 := h.st0
  have hs1 := h.st1
  have hX : p.state.toNat < 18446744073709551616 := by omega
  refine (draw_walk g p.state.toNat hX w (by rw [h.blk.cell 6, show ((p.state.toNat : Nat) : Int) = p.state by omega]; rfl) (h.blk.frozen 6)).mono ?_
  rintro e w' ⟨rfl, rfl⟩
  have hm : Mod (fun i => i = g) w ((w.setCell ⟨g, 6, none⟩ (.int .u64 (nextN p.state.toNat : Nat))).drewN 3) := Mod.drewN (Mod.setCell (Mod.refl (fun i => i = g) w) (p := ⟨g, 6, none⟩) (.inl rfl) _) 3
  have hn := nextN_lt _ hX
  refine ⟨rfl, h.state hm _ (Int.natCast_nonneg _) (by omega) ?_, hm⟩
  have := Blk.drewN (Blk.set_ h.blk 6 (.int .u64 (nextN p.state.toNat : Nat))) 3
  simpa [PhC] using this
theorem draw_nil (w : World) : Calls Try.prog 17 #[.pointer none] w fun e w' => e = .returned (.int .u64 0) ∧ w = w' := by
  go_enter Try.func17, Try.ntmps17
  go_wp2
  go_ret
  exact ⟨rfl, rfl⟩
theorem original_ok {w : World} {B g : Nat} {p : PV} (h : Ph w B g p) (i : Nat) :
    Calls Try.prog 28 #[.pointer (some ⟨g, 0, none⟩), .int .i64 i] w fun e w' => e = .returned (.bool p.start) ∧ w = w' := by
  have c1 : w.cell? ⟨g, 1, none⟩ = some (.bool p.start) := h.blk.cell 1
  clear h
  go_enter Try.func28, Try.ntmps28
  go_wp2
  go_ret
  exact ⟨rfl, rfl⟩
theorem inverted_ok {w : World} {B g : Nat} {p : PV} (h : Ph w B g p) (i : Nat) :
    Calls Try.prog 29 #[.pointer (some ⟨g, 0, none⟩), .int .i64 i] w fun e w' => e = .returned (.bool (!p.start)) ∧ w = w' := by
  have c1 : w.cell? ⟨g, 1, none⟩ = some (.bool p.start) := h.blk.cell 1
  clear h
  go_enter Try.func29, Try.ntmps29
  go_wp2
  go_ret
  exact ⟨rfl, rfl⟩
theorem and7 (x : Nat) (h : x < 18446744073709551616) : (bits .and .u64 (x : Int) 7 == 0) = decide (x % 8 = 0) := by
  rw [show (7 : Int) = ((7 : Nat) : Int) from rfl, bits_and_u64_nat _ _ h (by omega), show (7 : Nat) = 2 ^ 3 - 1 from rfl, Nat.and_two_pow_sub_one_eq_mod]
  rw [Bool.eq_iff_iff]
  simp only [beq_iff_eq, decide_eq_true_eq]
  omega
theorem and1 (x : Nat) (h : x < 18446744073709551616) : (bits .and .u64 (x : Int) 1 == 1) = decide (x % 2 = 1) := by
  rw [show (1 : Int) = ((1 : Nat) : Int) from rfl, bits_and_u64_nat _ _ h (by omega), show (1 : Nat) = 2 ^ 1 - 1 from rfl, Nat.and_two_pow_sub_one_eq_mod]
  rw [Bool.eq_iff_iff]
  simp only [beq_iff_eq, decide_eq_true_eq]
  omega
theorem random_ok {w : World} {B g : Nat} {p : PV} (h : Ph w B g p) (i : Nat) :
    Calls Try.prog 32 #[.pointer (some ⟨g, 0, none⟩), .int .i64 i] w fun e w' => e = .returned (.bool (decide (nextN p.state.toNat % 2 = 1))) ∧ Drawn w B g p w' := by
  have HD := Lib.hid (draw_ok h)
  have HA := Lib.hid (and1 _ (nextN_lt p.state.toNat (by have := h.st0; have := h.st1; omega)))
  generalize nextN p.state.toNat = x at *
  clear h
  go_enter Try.func32, Try.ntmps32
  go_wp2_with fail
  refine HD.out.mono ?_
  rintro e w1 ⟨rfl, hb⟩
  have HB := Lib.hid hb
  clear hb
  go_wp2
  go_ret
  exact ⟨by rw [← HA.out]; rfl, HB.out⟩
theorem walk_ok {w : World} {B g : Nat} {p : PV} (h : Ph w B g p) (i : Nat) (hi : i < p.saved.length) :
    Calls Try.prog 31 #[.pointer (some ⟨g, 0, none⟩), .int .i64 i] w fun e w' => e = .returned (.bool (p.saved.getD i false != decide (nextN p.state.toNat % 8 = 0))) ∧ Drawn w B g p w' := by
  have c0 : w.cell? ⟨g, 0, none⟩ = some (.slice (some ⟨p.sb, 0, none⟩) p.saved.length p.scap) := h.blk.cell 0
  have cs : w.cell? ⟨p.sb, i, none⟩ = some (.bool (p.saved.getD i false)) := h.row.cell (bools_at hi)
  have hlen := h.len
  have HD := Lib.hid (fun k => draw_ok (h.drewN k))
  have KEEP := Lib.hid (show ∀ w', Drawn w.drew B g p w' → w'.cell? ⟨g, 0, none⟩ = some (.slice (some ⟨p.sb, 0, none⟩) p.saved.length p.scap) ∧ w'.cell? ⟨p.sb, i, none⟩ = some (.bool (p.saved.getD i false)) from
    fun w' hd => ⟨hd.1.blk.cell 0, hd.1.row.cell (bools_at hi)⟩)
  have HA := Lib.hid (and7 _ (nextN_lt p.state.toNat (by have := h.st0; have := h.st1; omega)))
  generalize nextN p.state.toNat = x at *
  generalize p.saved.getD i false = sv at *
  clear h
  go_enter Try.func31, Try.ntmps31
  go_wp2_with fail
  go_region_held3 (fun w' => w'.cell? ⟨g, 0, none⟩ = some (.slice (some ⟨p.sb, 0, none⟩) p.saved.length p.scap) ∧ w'.cell? ⟨p.sb, i, none⟩ = some (.bool sv)) (first | exact ⟨c0, cs⟩ | exact k1)
    ((go_at_call 17
      refine (HD.out 1).mono ?_
      rintro e w1 ⟨rfl, hb⟩
      have k1 := KEEP.out w1 hb
      have HB := Lib.hid hb
      clear hb))
  go_wp2
  go_ret
  exact ⟨by rw [← HA.out]; rfl, HB.out.1, Mod.trans (Mod.refl _ w).drew HB.out.2 (fun _ _ h => h)⟩
theorem best_ok {w : World} {B g : Nat} {p : PV} (h : Ph w B g p) (i : Nat) (hi : i < p.saved.length) :
    Calls Try.prog 30 #[.pointer (some ⟨g, 0, none⟩), .int .i64 i] w fun e w' => e = .returned (.bool (decide (0 < p.bv.getD i 0) || (p.bv.getD i 0 == 0 && p.saved.getD i false))) ∧ Below w.heap.size w w' := by
  have c0 : w.cell? ⟨g, 0, none⟩ = some (.slice (some ⟨p.sb, 0, none⟩) p.saved.length p.scap) := h.blk.cell 0
  have c4 : w.cell? ⟨g, 4, none⟩ = some (.int .i64 p.bn) := h.blk.cell 4
  have c5 : w.cell? ⟨g, 5, none⟩ = some (.slice p.bA p.bl p.bl) := h.blk.cell 5
  have cs : w.cell? ⟨p.sb, i, none⟩ = some (.bool (p.saved.getD i false)) := h.row.cell (bools_at hi)
  have hlen := h.len
  have hltg := h.blk.lt
  have hlts := h.row.lt
  have HA := Lib.hid (at_any (w := w) h.b p.bn i hi hlen)
  have HA2 := Lib.hid (fun w1 (hb : Below w.heap.size w w1) => at_any (w := w1) (h.below hb).b p.bn i hi hlen)
  clear h
  generalize p.saved.length = N at *
  generalize p.saved.getD i false = sv at *
  generalize p.bv.getD i 0 = b at *
  generalize p.bA = A at *
  generalize p.bl = bl at *
  generalize p.sb = gs at *
  generalize p.scap = sc at *
  generalize p.bn = bn at *
  by_cases hp : 0 < b
  · go_enter Try.func30, Try.ntmps30
    go_wp2_with fail
    refine HA.out.mono ?_
    rintro e w1 ⟨rfl, hb1⟩
    have HB1 := Lib.hid hb1
    clear hb1
    go_wp2
    go_ret
    exact ⟨by rw [decide_eq_true hp]; rfl, HB1.out⟩
  · have hpf : decide (0 < b) = false := decide_eq_false hp
    by_cases hz : b = 0
    · have hzt : (b == 0) = true := by simpa using hz
      subst hz
      clear hp hpf hzt
      go_enter Try.func30, Try.ntmps30
      go_wp2_with fail
      refine HA.out.mono ?_
      rintro e w1 ⟨rfl, hb1⟩
      have k4 : w1.cell? ⟨g, 4, none⟩ = some (.int .i64 bn) := (hb1.cell (p := ⟨g, 4, none⟩) hltg).trans c4
      have k5 : w1.cell? ⟨g, 5, none⟩ = some (.slice A bl bl) := (hb1.cell (p := ⟨g, 5, none⟩) hltg).trans c5
      have HA3 := Lib.hid (HA2.out w1 hb1)
      have HB1 := Lib.hid hb1
      have KC := Lib.hid (show ∀ w2, Below w1.heap.size w1 w2 → w2.cell? ⟨g, 0, none⟩ = some (.slice (some ⟨gs, 0, none⟩) N sc) ∧ w2.cell? ⟨gs, i, none⟩ = some (.bool sv) from
        fun w2 hb2 => ⟨((below_then hb1 hb2 hb1.size).cell (p := ⟨g, 0, none⟩) hltg).trans c0, ((below_then hb1 hb2 hb1.size).cell (p := ⟨gs, i, none⟩) hlts).trans cs⟩)
      clear hb1 c0 c4 c5 cs
      go_wp2_with fail
      refine HA3.out.mono ?_
      rintro e w2 ⟨rfl, hb2⟩
      obtain ⟨l0, ls⟩ := KC.out w2 hb2
      have HB2 := Lib.hid (below_then HB1.out hb2 HB1.out.size)
      clear hb2
      go_wp2
      go_ret
      exact ⟨by simp, HB2.out⟩
    · have hzf : (b == 0) = false := by simpa using hz
      clear hp
      go_enter Try.func30, Try.ntmps30
      go_wp2_with fail
      refine HA.out.mono ?_
      rintro e w1 ⟨rfl, hb1⟩
      have k4 : w1.cell? ⟨g, 4, none⟩ = some (.int .i64 bn) := (hb1.cell (p := ⟨g, 4, none⟩) hltg).trans c4
      have k5 : w1.cell? ⟨g, 5, none⟩ = some (.slice A bl bl) := (hb1.cell (p := ⟨g, 5, none⟩) hltg).trans c5
      have HA3 := Lib.hid (HA2.out w1 hb1)
      have HB1 := Lib.hid hb1
      clear hb1 c0 c4 c5 cs
      go_wp2_with fail
      refine HA3.out.mono ?_
      rintro e w2 ⟨rfl, hb2⟩
      have HB2 := Lib.hid (below_then HB1.out hb2 HB1.out.size)
      clear hb2
      go_wp2
      go_ret
      exact ⟨by rw [hpf, hzf]; rfl, HB2.out⟩
def kindN (t : Int) : Int := if t < 2 then t else [2, 3, 0, 2, 4, 1].getD ((t - 2) % 6).toNat 0
set_option maxRecDepth 100000 in
theorem idx6 (W : World) (r : Nat) (hr : r < 6) : (Instr.index 84 (.agg #[.int .u8 2, .int .u8 3, .int .u8 0, .int .u8 2, .int .u8 4, .int .u8 1]) (.int .i64 r)).run Try.prog W = .ok (.int .u8 ([2, 3, 0, 2, 4, 1].getD r 0)) W := by
  have h := Try.underlying84
  have hs : (sizeOf 39).run Try.prog W = .ok 1 W := by kernel_rfl
  have hr' : r = 0 ∨ r = 1 ∨ r = 2 ∨ r = 3 ∨ r = 4 ∨ r = 5 := by omega
  rcases hr' with rfl | rfl | rfl | rfl | rfl | rfl <;> simp [Instr.index, run_underlying h, asIntOf, go_sem, hs]
set_option maxRecDepth 100000 in
theorem kind_ok (t : Int) (h0 : 0 ≤ t) (h1 : t ≤ 4611686018427387904) (w : World) :
    Calls Try.prog 33 #[.int .i64 t] w fun e w' => e = .returned (.int .u8 (kindN t)) ∧ w = w' := by
  by_cases h2 : t < 2
  · have hk : kindN t = t := by unfold kindN; rw [if_pos h2]
    have HK := Lib.hid hk
    clear hk
    have hw : IntKind.u8.wrap t = t := by rw [IntKind.wrap_u8]; omega
    go_enter Try.func33, Try.ntmps33
    go_wp2
    go_ret
    exact ⟨by rw [HK.out]; rfl, rfl⟩
  · have hr : (t - 2) % 6 = 0 ∨ (t - 2) % 6 = 1 ∨ (t - 2) % 6 = 2 ∨ (t - 2) % 6 = 3 ∨ (t - 2) % 6 = 4 ∨ (t - 2) % 6 = 5 := by omega
    have HT := Lib.hid (show (t - 2).tmod 6 = (t - 2) % 6 from Int.tmod_eq_emod_of_nonneg (by omega))
    have HK := Lib.hid (show kindN t = [2, 3, 0, 2, 4, 1].getD ((t - 2) % 6).toNat 0 by unfold kindN; rw [if_neg h2])
    rcases hr with hr | hr | hr | hr | hr | hr <;> (
      rw [hr] at HT HK
      have ht := HT.out
      have i0 : ∀ W, (Instr.index 84 (.agg #[.int .u8 2, .int .u8 3, .int .u8 0, .int .u8 2, .int .u8 4, .int .u8 1]) (.int .i64 0)).run Try.prog W = .ok (.int .u8 2) W := fun W => idx6 W 0 (by omega)
      have i1 : ∀ W, (Instr.index 84 (.agg #[.int .u8 2, .int .u8 3, .int .u8 0, .int .u8 2, .int .u8 4, .int .u8 1]) (.int .i64 1)).run Try.prog W = .ok (.int .u8 3) W := fun W => idx6 W 1 (by omega)
      have i2 : ∀ W, (Instr.index 84 (.agg #[.int .u8 2, .int .u8 3, .int .u8 0, .int .u8 2, .int .u8 4, .int .u8 1]) (.int .i64 2)).run Try.prog W = .ok (.int .u8 0) W := fun W => idx6 W 2 (by omega)
      have i3 : ∀ W, (Instr.index 84 (.agg #[.int .u8 2, .int .u8 3, .int .u8 0, .int .u8 2, .int .u8 4, .int .u8 1]) (.int .i64 3)).run Try.prog W = .ok (.int .u8 2) W := fun W => idx6 W 3 (by omega)
      have i4 : ∀ W, (Instr.index 84 (.agg #[.int .u8 2, .int .u8 3, .int .u8 0, .int .u8 2, .int .u8 4, .int .u8 1]) (.int .i64 4)).run Try.prog W = .ok (.int .u8 4) W := fun W => idx6 W 4 (by omega)
      have i5 : ∀ W, (Instr.index 84 (.agg #[.int .u8 2, .int .u8 3, .int .u8 0, .int .u8 2, .int .u8 4, .int .u8 1]) (.int .i64 5)).run Try.prog W = .ok (.int .u8 1) W := fun W => idx6 W 5 (by omega)
      have HR := Lib.hid hr
      clear hr
      go_enter Try.func33, Try.ntmps33
      go_wp2
      (go_ret; exact ⟨by rw [HK.out]; rfl, rfl⟩))
end Go.Proofs.Ytcmicmghnmklnaa.Ph
