/- The walks of Copy: the store's and the document's. -/
import Derived.Test.YtcmicmghnmklnaaPhX
namespace Go.Proofs.Ytcmicmghnmklnaa.Ph
open Go.RowKit Go.Proofs.Ytcmicmghnmklnaa.Mem Go.Proofs.Ytcmicmghnmklnaa.Sl Go.Shelf
set_option linter.unusedVariables false

set_option maxRecDepth 100000 in
theorem copy_ok {w : World} {B g : Nat} {p : PV} (h : Ph w B g p) (hB : B ≤ w.heap.size) :
    Calls Try.prog 19 #[.pointer (some ⟨g, 0, none⟩)] w fun e w' => ∃ g' p', e = .returned (.pointer (some ⟨g', 0, none⟩)) ∧ Ph w' B g' p' ∧ p'.abs = p.abs ∧ w.heap.size ≤ g' ∧ w.heap.size ≤ p'.sb ∧ Below w.heap.size w w' := by
  obtain ⟨i0, hi⟩ := Option.isSome_iff_exists.1 (show (Try.prog.info? 4).isSome = true by kernel_rfl)
  have hz : (Try.prog.info? 4).map (fun i => (i.zero, i.size, i.bytes)) = some (some (.bool false), 1, 1) := by kernel_rfl
  rw [hi] at hz
  injection hz with hz
  injection hz with hz0 hz
  injection hz with hz1 hz2
  have HP := Lib.hid h
  have hlen := h.len
  have HC := Lib.hid (fun (W : World) (hb : Below w.heap.size w W) => Try.slices_Clone i0 (.bool false) 1 1 hi hz0 hz1 hz2 rfl (by omega) (fun w => by kernel_rfl) p.sb 0 p.saved.length p.scap (p.saved.map Value.bool) W (by simp) (Nat.le_trans hlen (by decide)) (by omega)
    (fun j u hj => by rw [Nat.zero_add]; exact (h.below hb).row.cell hj) (fun u hu => by obtain ⟨b, _, rfl⟩ := List.mem_map.1 hu; rfl))
  have c0 : w.cell? ⟨g, 0, none⟩ = some (.slice (some ⟨p.sb, 0, none⟩) p.saved.length p.scap) := h.blk.cell 0
  have c1 : w.cell? ⟨g, 1, none⟩ = some (.bool p.start) := h.blk.cell 1
  have c2 : w.cell? ⟨g, 2, none⟩ = some (.int .i64 p.tn) := h.blk.cell 2
  have c3 : w.cell? ⟨g, 3, none⟩ = some (.slice p.tA p.tl p.tl) := h.blk.cell 3
  have c4 : w.cell? ⟨g, 4, none⟩ = some (.int .i64 p.bn) := h.blk.cell 4
  have c5 : w.cell? ⟨g, 5, none⟩ = some (.slice p.bA p.bl p.bl) := h.blk.cell 5
  have c6 : w.cell? ⟨g, 6, none⟩ = some (.int .u64 p.state) := h.blk.cell 6
  have c7 : w.cell? ⟨g, 7, none⟩ = some (.int .i64 p.turned) := h.blk.cell 7
  have hgl := h.blk.lt
  clear h hi hz0 hz1 hz2
  go_enter Try.func19, Try.ntmps19
  go_wp2_with fail
  obtain ⟨W, hW⟩ : ∃ W, W = w.alloc (.cells (PhC p) 62) := ⟨_, rfl⟩
  have hW' := hW
  unfold PhC at hW'
  rw [← hW']
  have k0 := Blk.new w 62 (PhC p)
  rw [← hW] at k0
  have K0 := Lib.hid k0
  have KB := Lib.hid (show Below w.heap.size w W from hW ▸ (Below.refl _ w).alloc (Nat.le_refl _) _)
  have KZ := Lib.hid (show w.heap.size + 1 = W.heap.size by rw [hW, World.size_alloc])
  clear hW hW' k0 c0 c1 c2 c3 c4 c5 c6 c7
  refine (HC.out W KB.out).mono ?_
  rintro e w1 ⟨v', rfl, ho, hne, hb1⟩
  obtain ⟨g2, cap, rfl, h1, h2⟩ := Row.of_own ho hne
  have K1 := Lib.hid (K0.out.below hb1)
  have c0 : w1.cell? ⟨w.heap.size, 0, none⟩ = some (.slice (some ⟨p.sb, 0, none⟩) p.saved.length p.scap) := K1.out.cell 0
  have f0 : w1.frozen? ⟨w.heap.size, 0, none⟩ = false := K1.out.frozen 0
  have R2 := Lib.hid h2
  have G2 := Lib.hid h1
  have B1 := Lib.hid (below_then KB.out hb1 KB.out.size)
  clear ho hne h1 h2 hb1
  go_wp2
  go_ret
  have hbF : Below w.heap.size w (w1.setCell ⟨w.heap.size, 0, none⟩ (.slice (some ⟨g2, 0, none⟩) p.saved.length cap)) := B1.out.setCell (by simp) _
  have hg2 : w.heap.size + 1 ≤ g2 := by have := KZ.out; have := G2.out; omega
  have hne : g2 ≠ w.heap.size := by omega
  have hm := Mod.none_ hbF (fun _ => False)
  have hp := HP.out
  refine ⟨w.heap.size, { p with sb := g2, scap := cap }, rfl, ⟨?_, Row.far R2.out (show g2 ≠ w.heap.size from hne) _, hB, by show B ≤ g2; omega, hp.t.mod hm (fun _ _ _ _ => id), hp.b.mod hm (fun _ _ _ _ => id), hp.len, hp.st0, hp.st1, hp.tu0, hp.tn0, hp.bn0⟩, rfl, Nat.le_refl _, by show w.heap.size ≤ g2; omega, hbF⟩
  have := Blk.set_ K1.out 0 (.slice (some ⟨g2, 0, none⟩) p.saved.length cap)
  simpa [PhC] using this
theorem val_own {w : World} {B base n : Nat} {v : Value} {l : List Bool} (h : w.ownsRow base 4 1 v n (l.map Value.bool)) (hB : B ≤ base) : ∃ A c, v = .slice A n c ∧ ValI w B A l c ∧ ∀ i, A = some ⟨i, 0, none⟩ → base ≤ i := by
  by_cases hv : v = .slice none 0 0
  · subst hv
    have h1 := h.1
    rcases h.2 with ⟨_, h2⟩ | ⟨g, cap, cur, h3, _⟩
    · subst h2
      rw [List.length_map] at h1
      exact ⟨none, 0, rfl, .inl ⟨rfl, List.eq_nil_of_length_eq_zero (by omega), rfl⟩, fun i e => by cases e⟩
    · cases h3
  · obtain ⟨g, c, rfl, h1, h2⟩ := Row.of_own h hv
    exact ⟨_, c, rfl, .inr ⟨g, rfl, by omega, h2⟩, fun i e => by cases e; exact h1⟩
set_option maxRecDepth 100000 in
theorem rcopy_ok {w : World} {B g : Nat} {m : PM} {r : RV} (h : Rf w B g m r) (hB : B ≤ w.heap.size) :
    Calls Try.prog 20 #[.pointer (some ⟨g, 0, none⟩)] w fun e w' => ∃ g' r', e = .returned (.pointer (some ⟨g', 0, none⟩)) ∧ Rf w' B g' m r' ∧ w.heap.size ≤ g' ∧ (∀ i, r'.vA = some ⟨i, 0, none⟩ → w.heap.size ≤ i) ∧ Below w.heap.size w w' := by
  obtain ⟨i0, hi⟩ := Option.isSome_iff_exists.1 (show (Try.prog.info? 4).isSome = true by kernel_rfl)
  have hz : (Try.prog.info? 4).map (fun i => (i.zero, i.size, i.bytes)) = some (some (.bool false), 1, 1) := by kernel_rfl
  rw [hi] at hz
  injection hz with hz
  injection hz with hz0 hz
  injection hz with hz1 hz2
  have HI := Lib.hid hi
  have HZ0 := Lib.hid hz0
  have HZ1 := Lib.hid hz1
  have HZ2 := Lib.hid hz2
  have HP := Lib.hid h
  have HLN := Lib.hid h.len
  have c0 : w.cell? ⟨g, 0, none⟩ = some (.slice r.vA m.saved.length r.vc) := h.blk.cell 0
  have c1 : w.cell? ⟨g, 1, none⟩ = some (.bool m.start) := h.blk.cell 1
  have c2 : w.cell? ⟨g, 2, none⟩ = some (.int .i64 m.tn) := h.blk.cell 2
  have c3 : w.cell? ⟨g, 3, none⟩ = some (.slice r.tA r.tL.length r.tc) := h.blk.cell 3
  have c4 : w.cell? ⟨g, 4, none⟩ = some (.int .i64 m.bn) := h.blk.cell 4
  have c5 : w.cell? ⟨g, 5, none⟩ = some (.slice r.bA r.bL.length r.bc) := h.blk.cell 5
  have c6 : w.cell? ⟨g, 6, none⟩ = some (.int .u64 m.state) := h.blk.cell 6
  have c7 : w.cell? ⟨g, 7, none⟩ = some (.int .i64 m.turned) := h.blk.cell 7
  have hgl := h.blk.lt
  clear h hi hz0 hz1 hz2
  go_enter Try.func20, Try.ntmps20
  go_upto_region 3 with (fail)
  obtain ⟨W, hW⟩ : ∃ W, W = w.alloc (.cells (RfC m r) 78) := ⟨_, rfl⟩
  have hW' := hW
  unfold RfC at hW'
  rw [← hW']
  have k0 := Blk.new w 78 (RfC m r)
  rw [← hW] at k0
  have K0 := Lib.hid k0
  have KB := Lib.hid (show Below w.heap.size w W from hW ▸ (Below.refl _ w).alloc (Nat.le_refl _) _)
  have KZ := Lib.hid (show w.heap.size + 1 = W.heap.size by rw [hW, World.size_alloc])
  have d0 : W.cell? ⟨g, 0, none⟩ = some (.slice r.vA m.saved.length r.vc) := (KB.out.cell (p := ⟨g, 0, none⟩) hgl).trans c0
  clear hW hW' k0 c0 c1 c2 c3 c4 c5 c6 c7
  rcases HP.out.val with ⟨hA, hs, hc⟩ | ⟨gv, hA, hBv, hrow⟩
  · have hx : Value.slice r.vA m.saved.length r.vc = .slice none 0 0 := by rw [hA, hs, hc]; rfl
    have HS := Lib.hid hs
    have e0 : W.cell? ⟨w.heap.size, 0, none⟩ = some (.slice r.vA m.saved.length r.vc) := K0.out.cell 0
    have f0 : W.frozen? ⟨w.heap.size, 0, none⟩ = false := K0.out.frozen 0
    have HX := Lib.hid hx
    clear hA hs hc hx
    go_wp2_with (first
      | (at_builtin; refine wpList_append_own_none rfl _ _ 42 rfl W.heap.size 4 i0 1 Try.underlying42 HI.out (.slice none 0 0) 0 [] rfl ⟨rfl, .inl ⟨rfl, rfl⟩⟩ HX.out ?_))
    go_ret
    have hbF : Below w.heap.size w (W.setCell ⟨w.heap.size, 0, none⟩ (.slice none 0 0)) := KB.out.setCell (by simp) _
    have hm := Mod.none_ hbF (fun _ => False)
    have hp := HP.out
    refine ⟨w.heap.size, { r with vA := none, vc := 0 }, rfl, ⟨?_, ?_, hp.t.mod hm (fun _ _ _ => id), hp.b.mod hm (fun _ _ _ => id), hB, hp.len, hp.st0, hp.st1, hp.tu0, hp.tf, hp.bf, hp.tv, hp.bv, hp.tm, hp.bm⟩, Nat.le_refl _, ?_, hbF⟩
    · have := Blk.set_ K0.out 0 (.slice none 0 0)
      have h0 : m.saved.length = 0 := by rw [HS.out]; rfl
      unfold RfC at this ⊢
      simp only [h0]
      simpa using this
    · exact .inl ⟨rfl, HS.out, rfl⟩
    · intro i e; cases e
  · rw [hA] at d0
    have HROW := Lib.hid (hrow.below KB.out)
    clear hrow hA
    go_wp2_with (first
      | (at_builtin; refine wpList_append_own _ rfl _ _ 42 rfl W.heap.size 4 i0 (.bool false) 1 1 Try.underlying42 HI.out HZ0.out HZ1.out HZ2.out rfl (by decide) (.slice none 0 0) 0 [] rfl ⟨rfl, .inl ⟨rfl, rfl⟩⟩ ⟨gv, 0, none⟩ m.saved.length r.vc (m.saved.map Value.bool) rfl (by simp) ?_ (fun u hu => by obtain ⟨x, _, rfl⟩ := List.mem_map.1 hu; rfl) (by have := HLN.out; unfold maxLen; omega) (by have := HLN.out; omega) (Nat.le_refl _) ?_
         · exact fun j u hj => by
             rw [Go.WideShapes.add_plain, Nat.zero_add]
             exact HROW.out.cell hj
         intro v' w2 hown hgrow hnl
         obtain ⟨A', c', rfl, hval, hbase⟩ := val_own (n := m.saved.length) (l := m.saved) (B := B) (by simpa using hown) (by have := KZ.out; omega)
         have hb2 : Below W.heap.size W w2 := (Mod.grown hgrow).below (fun i _ e => by cases e) (Nat.le_refl _)
         have K1 := Lib.hid (K0.out.below hb2)
         have e0 : w2.cell? ⟨w.heap.size, 0, none⟩ = some (.slice r.vA m.saved.length r.vc) := K1.out.cell 0
         have f0 : w2.frozen? ⟨w.heap.size, 0, none⟩ = false := K1.out.frozen 0
         have V2 := Lib.hid hval
         have H2 := Lib.hid hbase
         have B2 := Lib.hid (below_then KB.out hb2 KB.out.size)
         clear hown hgrow hnl hval hbase hb2))
    go_ret
    have hbF : Below w.heap.size w (w2.setCell ⟨w.heap.size, 0, none⟩ (.slice A' m.saved.length c')) := B2.out.setCell (by simp) _
    have hm := Mod.none_ hbF (fun _ => False)
    have hp := HP.out
    refine ⟨w.heap.size, { r with vA := A', vc := c' }, rfl, ⟨?_, ?_, hp.t.mod hm (fun _ _ _ => id), hp.b.mod hm (fun _ _ _ => id), hB, hp.len, hp.st0, hp.st1, hp.tu0, hp.tf, hp.bf, hp.tv, hp.bv, hp.tm, hp.bm⟩, Nat.le_refl _, ?_, hbF⟩
    · have := Blk.set_ K1.out 0 (.slice A' m.saved.length c')
      unfold RfC at this ⊢
      simpa using this
    · rcases V2.out with k | ⟨i, k1, k2, k3⟩
      · exact .inl k
      · have hne : i ≠ w.heap.size := by have := H2.out i k1; have := KZ.out; omega
        exact .inr ⟨i, k1, k2, Row.far k3 (show i ≠ w.heap.size from hne) _⟩
    · intro i e
      have := H2.out i e
      have := KZ.out
      omega
end Go.Proofs.Ytcmicmghnmklnaa.Ph
