/- The document's heap: Copy. Conditions: the memory. -/
import Derived.Test.YtienomdennbkpaaHs
namespace Go.Proofs.Ytienomdennbkpaa.He
open Go.RowKit Go.Proofs.Ytienomdennbkpaa.Mem Go.Proofs.Ytienomdennbkpaa.Sl Go.Shelf
open Go.Proofs.Ytienomdennbkpaa.FnL (enc_at below_then)
set_option linter.unusedVariables false

theorem wpAppJ {w : World} {ops : Array Oper} {rest : List Oper} {o : Oper} {a : Act} {Q : Exit → Act → World → Prop} (hgd : o.guard = none) (s x : Operand)
    (ho : o.op = .call { callee := .builtin .append, args := #[s, x], argTypes := #[22, 22] })
    (base : Nat) (A : Option Addr) (n c : Nat) (xs : List Int) (hs : a.eval s = .slice A n c) (hown : App.Own w base 2 A n c (LZ xs))
    (A2 : Option Addr) (m c2 : Nat) (news : List Int) (hx : a.eval x = .slice A2 m c2) (hl : m = news.length) (hr : RdV w A2 (LZ news)) (hnil : A2 = none → c2 = 0)
    (h63 : n + m ≤ 4000000) (hbase : base ≤ w.heap.size) (r : Nat) (hrr : n + m = r)
    (h : ∀ A' c' w', App.Own w' base 2 A' r c' (LZ (xs ++ news)) → w.grownBy w' (Value.slice A n c).ownBlock → wpList Try.prog ops Q rest (a.put o.dst (.slice A' r c')) w') : wpList Try.prog ops Q (o :: rest) a w := by
  subst hrr
  obtain ⟨i0, hi⟩ := Option.isSome_iff_exists.1 (show (Try.prog.info? 2).isSome = true by kernel_rfl)
  have hz : (Try.prog.info? 2).map (fun i => (i.zero, i.size, i.bytes)) = some (some (.int .i64 0), 1, 8) := by kernel_rfl
  rw [hi] at hz
  injection hz with hz
  injection hz with hz0 hz
  injection hz with hz1 hz2
  refine App.wpList_app hgd s x 22 ho base 2 i0 (.int .i64 0) 8 Try.underlying22 hi hz0 hz1 hz2 rfl (.slice A n c) n (LZ xs) hs hown.own A2 m c2 (LZ news) hx (by simpa [LZ] using hl) hr hnil one_LZ (by unfold maxLen; omega) (by omega) hbase (fun v' w' h1 h2 => ?_)
  obtain ⟨A', c', rfl, hO⟩ := App.Own.of h1
  exact h A' c' w' (by rw [LZ, List.map_append]; exact hO) h2
def DCopyR (w : World) (N : Nat) (s l : List Int) (e : Ending) (w' : World) : Prop := (∃ d, e = .returned (.pointer (some ⟨d.g, 0, none⟩)) ∧ RH w' w.heap.size N d s l) ∧ Below w.heap.size w w'
set_option maxRecDepth 100000 in
theorem dcopy_any {w : World} {B N : Nat} {d : DA} {s l : List Int} (h : RH w B N d s l) :
    Calls Try.prog 24 #[.pointer (some ⟨d.g, 0, none⟩)] w (DCopyR w N s l) := by
  have H := Lib.hid h
  have hN := h.hN
  have hl := h.lenN
  have c0 : w.cell? ⟨d.g, 0, none⟩ = some (.slice (some ⟨d.s, 0, none⟩) (N + 1) d.sc) := h.blk.cell 0
  have HSR := Lib.hid h.sr.rd
  have HSL := Lib.hid (show N + 1 = s.length from h.sl.symm)
  clear h
  generalize hL : l.length = L at *
  have HL := Lib.hid hL
  clear hL
  go_enter Try.func24, Try.ntmps24
  go_upto_region 3 with (at_builtin; refine wpAppJ rfl _ _ rfl w.heap.size none 0 0 [] rfl (App.Own.nil _ _ _) (some ⟨d.s, 0, none⟩) (N + 1) d.sc s rfl HSL.out HSR.out (fun e => by cases e) (by omega) (Nat.le_refl _) (N + 1) (by omega) ?_; intro A1 c1' w1 hO1 hg1)
  have HB1 := Lib.hid (grown_below (App.Own.nil w w.heap.size 2) (Nat.le_refl _) hg1)
  have HO1 := Lib.hid (show App.Own w1 w.heap.size 2 A1 (N + 1) c1' (LZ s) from hO1)
  clear hO1 hg1 c0
  have HR1 := Lib.hid (H.out.below HB1.out)
  have c1 : w1.cell? ⟨d.g, 1, none⟩ = some (.slice d.lA L d.lc) := by rw [← HL.out]; exact HR1.out.blk.cell 1
  have HNN := Lib.hid (show d.lA = none → d.lc = 0 from fun e => by
    obtain ⟨_, ⟨_, h2, _⟩ | ⟨g, e2, _⟩⟩ := HR1.out.lr
    · exact h2
    · rw [e] at e2; cases e2)
  have HLR := Lib.hid HR1.out.lr.rd
  go_upto_region 5 with (at_builtin; refine wpAppZ rfl _ _ rfl w.heap.size none 0 0 [] rfl (App.Own.nil _ _ _) d.lA L d.lc l rfl HL.out.symm HLR.out HNN.out (by omega) HB1.out.size L (by omega) ?_; intro A2 c2' w2 hO2 hg2)
  have hb2 := Mod.fresh ((Mod.grown hg2).mono (T := fun _ => False) (fun i _ e => by cases e))
  have HB2 := Lib.hid (below_then HB1.out hb2 HB1.out.size)
  have HO1B := Lib.hid (HO1.out.below hb2)
  have HO2 := Lib.hid (show App.Own w2 w.heap.size 3 A2 L c2' (LZ l) from hO2)
  clear hO2 hg2 hb2 c1
  have HFIN := Lib.hid (show DCopyR w N s l (.returned (.pointer (some ⟨w2.heap.size, 0, none⟩))) (w2.alloc (.cells #[.slice A1 (N + 1) c1', .slice A2 L c2'] 69)) from by
    obtain ⟨gs, rfl, ks, rs⟩ := HO1B.out.row (Nat.succ_pos _)
    have hL := HL.out
    subst hL
    exact ⟨⟨⟨w2.heap.size, gs, c1', A2, c2'⟩, rfl, ⟨Blk.new w2 _ _, rs.alloc _, HO2.out.alloc _, HSL.out.symm, H.out.rg, H.out.nd, ⟨HB2.out.size, ks⟩, hN⟩⟩, HB2.out.alloc HB2.out.size _⟩)
  go_wp2
  go_ret
  exact HFIN.out
end Go.Proofs.Ytienomdennbkpaa.He
