/- The walks of Reach and New of package phase; stores of at most 1000000 variables. -/
import Derived.Test.YtcmicmghnmklnaaPhC
namespace Go.Proofs.Ytcmicmghnmklnaa.Ph
open Go.RowKit Go.Proofs.Ytcmicmghnmklnaa.Mem Go.Proofs.Ytcmicmghnmklnaa.Sl Go.Shelf
set_option linter.unusedVariables false

theorem reach1_no {w : World} (g c cl cp : Nat) (x : Int) (a : Option Addr) (cap n : Nat) (hc : w.cell? ⟨g, c, none⟩ = some (.int .i64 x)) (hl : w.cell? ⟨cl, 0, none⟩ = some (.slice a n cap)) (hx : (n : Int) ≤ x) :
    Calls Try.prog 25 #[.pointer (some ⟨g, c, none⟩), .pointer (some ⟨cl, 0, none⟩), .pointer (some ⟨cp, 0, none⟩)] w fun e w' => e = .returned (.bool false) ∧ ∃ k, w' = w.drewN k := by
  go_enter Try.func25, Try.ntmps25
  go_wp2_with fail
  go_quiet (fail)
  go_wp2
  go_ret
  exact ⟨rfl, _, rfl⟩

theorem Blk.two {w : World} {B g : Nat} {p : PV} (h : Ph w B g p) {W : World} (hb : Below w.heap.size w W) (c : Nat) (u v : Value) : Blk ((W.setCell ⟨g, c, none⟩ u).setCell ⟨g, c + 1, none⟩ v) g 62 (((PhC p).setIfInBounds c u).setIfInBounds (c + 1) v) :=
  Blk.set_ (Blk.set_ (h.blk.below hb) _ _) _ _
theorem two_mod {w W : World} (g c : Nat) (hb : Below w.heap.size w W) (u v : Value) : Mod (fun i => i = g) w ((W.setCell ⟨g, c, none⟩ u).setCell ⟨g, c + 1, none⟩ v) :=
  Mod.setCell (Mod.setCell (Mod.none_ hb (fun i => i = g)) (p := ⟨g, c, none⟩) (.inl rfl) u) (p := ⟨g, c + 1, none⟩) (.inl rfl) v
set_option maxRecDepth 100000 in
theorem reach1_yes {w : World} {B g : Nat} {p : PV} (h : Ph w B g p) (c cl cp : Nat) (x : Int) (a : Option Addr) (cap n : Nat) (l : List Int) (hn : n = l.length) (hm : n ≤ 140737488351232) (hr : RdV w a (l.map (Value.int .i32))) (hf : Fits p.saved.length l)
    (hc : (PhC p)[c]? = some (.int .i64 x)) (hl : w.cell? ⟨cl, 0, none⟩ = some (.slice a n cap)) (hp : w.cell? ⟨cp, 0, none⟩ = some (.pointer (some ⟨g, 0, none⟩))) (hx : x < (n : Int)) (y : Value) (hy : (PhC p)[c + 1]? = some y) (hcl : cl ≠ g) (hcp : cp ≠ g) (hc00 : c ≠ 0) :
    Calls Try.prog 25 #[.pointer (some ⟨g, c, none⟩), .pointer (some ⟨cl, 0, none⟩), .pointer (some ⟨cp, 0, none⟩)] w fun e w' => e = .returned (.bool true) ∧
      ∃ W gn, Below w.heap.size w W ∧ w.heap.size ≤ gn ∧ Blk W gn 67 ((rowOf l p.saved.length).map (Value.int .i8)).toArray ∧ w' = (W.setCell ⟨g, c, none⟩ (.int .i64 n)).setCell ⟨g, c + 1, none⟩ (.slice (some ⟨gn, 0, none⟩) p.saved.length p.saved.length) := by
  have HO := Lib.hid (fun k => of_ok a cap l n p.saved.length hn hm h.len (w.drewN k) hr hf)
  have hc0 : w.cell? ⟨g, c, none⟩ = some (.int .i64 x) := (h.blk.cell c).trans hc
  have hc1 : w.cell? ⟨g, 0, none⟩ = some (.slice (some ⟨p.sb, 0, none⟩) p.saved.length p.scap) := h.blk.cell 0
  have HP := Lib.hid h
  have HC := Lib.hid hc
  have HY := Lib.hid hy
  have hlen := h.len
  have hlt := Lib.hid h.blk.lt
  have hx' : ¬ (n : Int) ≤ x := by omega
  clear h hr hn hf hc hy
  go_enter Try.func25, Try.ntmps25
  go_wp2_with fail
  go_quiet (fail)
  go_wp2_with fail
  generalize nq = nq at *
  obtain ⟨W, hW⟩ : ∃ W, W = w.drewN nq := ⟨_, rfl⟩
  rw [← hW]
  have hp1 : W.cell? ⟨cp, 0, none⟩ = some (.pointer (some ⟨g, 0, none⟩)) := hW ▸ hp
  have hl1 : W.cell? ⟨cl, 0, none⟩ = some (.slice a n cap) := hW ▸ hl
  have hc2 : W.cell? ⟨g, 0, none⟩ = some (.slice (some ⟨p.sb, 0, none⟩) p.saved.length p.scap) := hW ▸ hc1
  have HO2 := Lib.hid (show Calls Try.prog 26 _ W.drew _ by rw [hW]; exact HO.out (nq + 1))
  have KEEP := Lib.hid (show ∀ w1, Below w.heap.size w w1 → w1.cell? ⟨cp, 0, none⟩ = some (.pointer (some ⟨g, 0, none⟩)) ∧ w1.cell? ⟨cl, 0, none⟩ = some (.slice a n cap) ∧ w1.cell? ⟨g, 0, none⟩ = some (.slice (some ⟨p.sb, 0, none⟩) p.saved.length p.scap) from fun w1 hb =>
    ⟨(hb.cell (p := ⟨cp, 0, none⟩) (World.block_lt_of_cell? w _ hp)).trans hp, (hb.cell (p := ⟨cl, 0, none⟩) (World.block_lt_of_cell? w _ hl)).trans hl, (hb.cell (p := ⟨g, 0, none⟩) hlt.out).trans hc1⟩)
  have KEEP2 := Lib.hid (show ∀ W1, Below w.heap.size w W1 → ∀ gn, let w1 := (W1.setCell ⟨g, c, none⟩ (.int .i64 n)).setCell ⟨g, c + 1, none⟩ (.slice (some ⟨gn, 0, none⟩) p.saved.length p.saved.length); w1.cell? ⟨cp, 0, none⟩ = some (.pointer (some ⟨g, 0, none⟩)) ∧ w1.cell? ⟨cl, 0, none⟩ = some (.slice a n cap) ∧ w1.cell? ⟨g, 0, none⟩ = some (.slice (some ⟨p.sb, 0, none⟩) p.saved.length p.scap) from fun W1 hb gn =>
    have hm := two_mod g c hb (.int .i64 n) (.slice (some ⟨gn, 0, none⟩) p.saved.length p.saved.length)
    ⟨(World.cell?_of_block (hm.block cp (World.block_lt_of_cell? w _ hp) hcp)).trans hp, (World.cell?_of_block (hm.block cl (World.block_lt_of_cell? w _ hl) hcl)).trans hl,
      ((Blk.two HP.out hb c (.int .i64 n) (.slice (some ⟨gn, 0, none⟩) p.saved.length p.saved.length)).cell 0).trans (by rw [Array.getElem?_setIfInBounds_ne (by omega), Array.getElem?_setIfInBounds_ne (by omega)]; rfl)⟩)
  clear hW hp hl hc1 hc0 HO
  go_region_held3 (fun w' => w'.cell? ⟨cp, 0, none⟩ = some (.pointer (some ⟨g, 0, none⟩)) ∧ w'.cell? ⟨cl, 0, none⟩ = some (.slice a n cap) ∧ w'.cell? ⟨g, 0, none⟩ = some (.slice (some ⟨p.sb, 0, none⟩) p.saved.length p.scap)) (first | exact ⟨hp1, hl1, hc2⟩ | exact hk1 | exact hk2)
    ((go_at_call 26
      refine HO2.out.mono ?_
      rintro e w1 ⟨gn, rfl, hgn, hbn, hb1⟩
      have hb2 : Below w.heap.size w w1 := ⟨hb1.os, hb1.tape, hb1.output, hb1.size, hb1.block⟩
      have hk1 := KEEP.out w1 hb2
      have hk2 := KEEP2.out w1 hb2 gn
      have g0 : w1.cell? ⟨g, c, none⟩ = some (.int .i64 x) := (HP.out.blk.below hb2).cell c |>.trans HC.out
      have g1 : w1.cell? ⟨g, c + 1, none⟩ = some y := (HP.out.blk.below hb2).cell (c + 1) |>.trans HY.out
      have g2 : w1.frozen? ⟨g, c, none⟩ = false := (HP.out.blk.below hb2).frozen c
      have g3 : w1.frozen? ⟨g, c + 1, none⟩ = false := (HP.out.blk.below hb2).frozen (c + 1)
      have HB := Lib.hid hb2
      have HG := Lib.hid (show w.heap.size ≤ gn from hgn)
      have HN := Lib.hid hbn
      clear hb2 hb1 hgn hbn))
  go_wp2
  go_ret
  exact ⟨rfl, w1, gn, HB.out, HG.out, HN.out, rfl⟩

theorem Ph.ne_i8 {w : World} {B g : Nat} {p : PV} (h : Ph w B g p) {i : Nat} {cs : Array Value} (hc : Blk w i 67 cs) : ¬ i = g := fun e => h.blk.ne_ hc (by decide) e.symm
theorem Ph.target {w W : World} {B g gn : Nat} {p : PV} (h : Ph w B g p) (hB : B ≤ w.heap.size) (hb : Below w.heap.size w W) (l : List Int) (n : Nat) (hl : l.length = p.saved.length) (hg : w.heap.size ≤ gn) (hn : Blk W gn 67 (l.map (Value.int .i8)).toArray) :
    Ph ((W.setCell ⟨g, 2, none⟩ (.int .i64 n)).setCell ⟨g, 3, none⟩ (.slice (some ⟨gn, 0, none⟩) p.saved.length p.saved.length)) B g { p with tn := n, tA := some ⟨gn, 0, none⟩, tl := p.saved.length, tv := l } := by
  have hm := two_mod g 2 hb (.int .i64 n) (.slice (some ⟨gn, 0, none⟩) p.saved.length p.saved.length)
  have hk := Blk.two h hb 2 (.int .i64 n) (.slice (some ⟨gn, 0, none⟩) p.saved.length p.saved.length)
  have hgw : g < w.heap.size := h.blk.lt
  refine ⟨?_, h.row.mod hm (fun e => h.row.ne_blk h.blk (by decide) e), h.bg, h.bs, .inr ⟨gn, rfl, rfl, hl, by omega, ?_⟩, h.b.mod hm (fun i _ cs hc => h.ne_i8 hc), h.len, h.st0, h.st1, h.tu0, Int.natCast_nonneg _, h.bn0⟩
  · simpa [PhC] using hk
  · exact Blk.far (Blk.far hn (by simp; omega) _) (by simp; omega) _
theorem Ph.best {w W : World} {B g gn : Nat} {p : PV} (h : Ph w B g p) (hB : B ≤ w.heap.size) (hb : Below w.heap.size w W) (l : List Int) (n : Nat) (hl : l.length = p.saved.length) (hg : w.heap.size ≤ gn) (hn : Blk W gn 67 (l.map (Value.int .i8)).toArray) :
    Ph ((W.setCell ⟨g, 4, none⟩ (.int .i64 n)).setCell ⟨g, 5, none⟩ (.slice (some ⟨gn, 0, none⟩) p.saved.length p.saved.length)) B g { p with bn := n, bA := some ⟨gn, 0, none⟩, bl := p.saved.length, bv := l } := by
  have hm := two_mod g 4 hb (.int .i64 n) (.slice (some ⟨gn, 0, none⟩) p.saved.length p.saved.length)
  have hk := Blk.two h hb 4 (.int .i64 n) (.slice (some ⟨gn, 0, none⟩) p.saved.length p.saved.length)
  have hgw : g < w.heap.size := h.blk.lt
  refine ⟨?_, h.row.mod hm (fun e => h.row.ne_blk h.blk (by decide) e), h.bg, h.bs, h.t.mod hm (fun i _ cs hc => h.ne_i8 hc), .inr ⟨gn, rfl, rfl, hl, by omega, ?_⟩, h.len, h.st0, h.st1, h.tu0, h.tn0, Int.natCast_nonneg _⟩
  · simpa [PhC] using hk
  · exact Blk.far (Blk.far hn (by simp; omega) _) (by simp; omega) _

def targetM (m : PM) (l : List Int) : PM := if m.tn < l.length then { m with tn := l.length, tv := rowOf l m.saved.length } else m
def bestM (m : PM) (l : List Int) : PM := if m.bn < l.length then { m with bn := l.length, bv := rowOf l m.saved.length } else m
theorem reach1_t {w : World} {B g : Nat} {p : PV} (h : Ph w B g p) (hB : B ≤ w.heap.size) (cl cp : Nat) (a : Option Addr) (cap n : Nat) (l : List Int) (hn : n = l.length) (hm : n ≤ 140737488351232) (hr : RdV w a (l.map (Value.int .i32))) (hf : Fits p.saved.length l)
    (hl : w.cell? ⟨cl, 0, none⟩ = some (.slice a n cap)) (hp : w.cell? ⟨cp, 0, none⟩ = some (.pointer (some ⟨g, 0, none⟩))) (hcl : cl ≠ g) (hcp : cp ≠ g) :
    Calls Try.prog 25 #[.pointer (some ⟨g, 2, none⟩), .pointer (some ⟨cl, 0, none⟩), .pointer (some ⟨cp, 0, none⟩)] w fun e w' => ∃ p', e = .returned (.bool (decide (p.tn < l.length))) ∧ Ph w' B g p' ∧ p'.abs = targetM p.abs l ∧ p'.sb = p.sb ∧ Mod (fun i => i = g) w w' := by
  subst hn
  by_cases hx : p.tn < (l.length : Int)
  · refine (reach1_yes h 2 cl cp p.tn a cap _ l rfl hm hr hf rfl hl hp hx (.slice p.tA p.tl p.tl) rfl hcl hcp (by decide)).mono ?_
    rintro e w' ⟨rfl, W, gn, h1, h2, h3, rfl⟩
    refine ⟨_, by rw [decide_eq_true hx], h.target hB h1 _ l.length (rowOf_len _ _) h2 h3, ?_, rfl, two_mod g 2 h1 _ _⟩
    rw [targetM, if_pos (show p.abs.tn < (l.length : Int) from hx)]; rfl
  · refine (reach1_no g 2 cl cp p.tn a cap _ (h.blk.cell 2) hl (Int.not_lt.1 hx)).mono ?_
    rintro e w' ⟨rfl, k, rfl⟩
    refine ⟨p, by rw [decide_eq_false hx], h.drewN k, ?_, rfl, (Mod.refl _ _).drewN k⟩
    rw [targetM, if_neg (show ¬ p.abs.tn < (l.length : Int) from hx)]
theorem reach1_b {w : World} {B g : Nat} {p : PV} (h : Ph w B g p) (hB : B ≤ w.heap.size) (cl cp : Nat) (a : Option Addr) (cap n : Nat) (l : List Int) (hn : n = l.length) (hm : n ≤ 140737488351232) (hr : RdV w a (l.map (Value.int .i32))) (hf : Fits p.saved.length l)
    (hl : w.cell? ⟨cl, 0, none⟩ = some (.slice a n cap)) (hp : w.cell? ⟨cp, 0, none⟩ = some (.pointer (some ⟨g, 0, none⟩))) (hcl : cl ≠ g) (hcp : cp ≠ g) :
    Calls Try.prog 25 #[.pointer (some ⟨g, 4, none⟩), .pointer (some ⟨cl, 0, none⟩), .pointer (some ⟨cp, 0, none⟩)] w fun e w' => ∃ p', e = .returned (.bool (decide (p.bn < l.length))) ∧ Ph w' B g p' ∧ p'.abs = bestM p.abs l ∧ p'.sb = p.sb ∧ Mod (fun i => i = g) w w' := by
  subst hn
  by_cases hx : p.bn < (l.length : Int)
  · refine (reach1_yes h 4 cl cp p.bn a cap _ l rfl hm hr hf rfl hl hp hx (.slice p.bA p.bl p.bl) rfl hcl hcp (by decide)).mono ?_
    rintro e w' ⟨rfl, W, gn, h1, h2, h3, rfl⟩
    refine ⟨_, by rw [decide_eq_true hx], h.best hB h1 _ l.length (rowOf_len _ _) h2 h3, ?_, rfl, two_mod g 4 h1 _ _⟩
    rw [bestM, if_pos (show p.abs.bn < (l.length : Int) from hx)]; rfl
  · refine (reach1_no g 4 cl cp p.bn a cap _ (h.blk.cell 4) hl (Int.not_lt.1 hx)).mono ?_
    rintro e w' ⟨rfl, k, rfl⟩
    refine ⟨p, by rw [decide_eq_false hx], h.drewN k, ?_, rfl, (Mod.refl _ _).drewN k⟩
    rw [bestM, if_neg (show ¬ p.abs.bn < (l.length : Int) from hx)]
end Go.Proofs.Ytcmicmghnmklnaa.Ph
