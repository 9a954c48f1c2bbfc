/- Trail: what holds between two rounds of Back. Plain theorems, conditions in each. -/
import Derived.Test.YtbbpebfgdcidjaaTb
namespace Go.Proofs.Ytbbpebfgdcidjaa.Ta
open Go.RowKit Go.Proofs.Ytbbpebfgdcidjaa.Mem Go.Proofs.Ytbbpebfgdcidjaa.Sl Go.Proofs.Ytbbpebfgdcidjaa.Cl Go.Proofs.Ytbbpebfgdcidjaa.App Go.Shelf
open Go.Proofs.Ytbbpebfgdcidjaa.FnL (enc_at below_then)
set_option linter.unusedVariables false

def clr (sp : Nat → Int × Int × Int) (ls : List Int) : Nat → Int × Int × Int := ls.foldl (fun s l => upd s (varI l).toNat (0, 0, 0)) sp
theorem clr_snoc (sp : Nat → Int × Int × Int) (ls : List Int) (x : Int) : clr sp (ls ++ [x]) = upd (clr sp ls) (varI x).toNat (0, 0, 0) := by unfold clr; rw [List.foldl_append]; rfl
/-- gone, and the spots, behind the literals pre. -/
structure BI (n1 b1 gs N : Nat) (sp : Nat → Int × Int × Int) (W0 : World) (pre : List Int) (W : World) : Prop where
  own : ∃ A c, Blk W b1 36 #[.slice A pre.length c] ∧ App.Own W n1 30 A pre.length c (LI pre)
  sp : Sp W gs N (clr sp pre)
  md : Mem.Mod (fun i => i = gs ∨ i = b1 ∨ n1 ≤ i) W0 W
def NoCells (W : World) (i : Nat) : Prop := ∃ o, W.heap[i]? = some o ∧ o.isCells = false
theorem blk_cells {W : World} {g : Nat} {t : TypeId} {cs : Array Value} (h : Blk W g t cs) : ¬ NoCells W g := by
  rintro ⟨o, ho, hc⟩
  unfold Blk at h
  rw [h] at ho
  cases ho
  cases hc
theorem BI.quiet {n1 b1 gs N : Nat} {sp : Nat → Int × Int × Int} {W0 W W' : World} {pre : List Int} (h : BI n1 b1 gs N sp W0 pre W) (hm : Mem.Mod (fun i => n1 ≤ i ∧ NoCells W i) W W') : BI n1 b1 gs N sp W0 pre W' := by
  obtain ⟨⟨A, c, h1, h2⟩, ⟨cs, h3, h4⟩, h5⟩ := h
  refine ⟨⟨A, c, h1.mod hm (fun e => blk_cells h1 e.2), h2.mod hm (fun i _ e hi => ?_)⟩, ⟨cs, h3.mod hm (fun e => blk_cells h3 e.2), h4⟩, h5.then_ (hm.mono fun i _ hi => .inr (.inr hi.1))⟩
  obtain ⟨_, ⟨e1, _⟩ | ⟨j, e1, _, _, r, h6, _⟩⟩ := h2
  · rw [e1] at e; cases e
  · rw [e1] at e; cases e
    exact blk_cells h6 hi.2
theorem BI.ownFrom {n1 b1 gs N : Nat} {sp : Nat → Int × Int × Int} {W0 : World} {st : List Int} : OwnFrom n1 (fun (pre : List (In st)) W => BI n1 b1 gs N sp W0 (pre.map Subtype.val) W) :=
  fun s W W' row hs hg hr => hs.quiet ((Mod.grown hg).mono (fun i _ e => hr i e.symm))
theorem keeps_mod {S : Nat → Prop} {B : Nat} {W W' : World} (h : Mem.Mod S W W') (hS : ∀ i, i < W.heap.size → S i → ¬ NoCells W i) : KeepsFrom B W W' :=
  ⟨h.size, fun k o _ hk ho => (h.block k (Array.getElem?_eq_some_iff.1 hk).1 (fun hs => hS k (Array.getElem?_eq_some_iff.1 hk).1 hs ⟨o, hk, ho⟩)).trans hk⟩
theorem kpS_put {gs b1 n1 : Nat} (W : World) (l : Nat) (o o' : Obj) (hl : n1 ≤ l) (h : W.heap[l]? = some o) (ho : o.isCells = false) (hw : o.isWalk = false) : KpS (fun i => i = gs ∨ i = b1 ∨ n1 ≤ i) W (W.putObj l o') :=
  (Mod.grown (grownBy_putObj' W l o')).mono (fun i _ e => by cases e; exact .inr (.inr hl))
end Go.Proofs.Ytbbpebfgdcidjaa.Ta
