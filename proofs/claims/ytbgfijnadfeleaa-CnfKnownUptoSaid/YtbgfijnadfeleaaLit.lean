/- What is laid as a literal: clauses, models, rows of clauses in blocks of their own. Plain theorems, no condition. -/
import Derived.Test.YtbgfijnadfeleaaClH
namespace Go.Proofs.Ytbgfijnadfeleaa.Cl
open Go.RowKit Go.Proofs.Ytbgfijnadfeleaa.Mem Go.Proofs.Ytbgfijnadfeleaa.Sl Go.Shelf
set_option linter.unusedVariables false

theorem blk_here {w : World} {k : Nat} {t : TypeId} {cs : Array Value} (h : k = w.heap.size) : Blk (w.alloc (.cells cs t)) k t cs := h ▸ Blk.new w t cs
theorem rdb_blk {W : World} {B g : Nat} {t : TypeId} {vs : List Value} (h : Blk W g t vs.toArray) (hg : g < B) : RdB B W (some ⟨g, 0, none⟩) vs := fun _ =>
  ⟨g, 0, rfl, hg, fun i v hi => by rw [Nat.zero_add, h.cell i]; simpa using hi⟩
theorem cl_blk {W : World} {B g n c : Nat} {t : TypeId} {l : List Int} (h : Blk W g t (l.map (Value.int .i32)).toArray) (hg : g < B) (hn : n = l.length) (hm : n ≤ 9223372036854775807) (hl : ∀ y, y ∈ l → -2147483648 ≤ y ∧ y ≤ 2147483647) : ClOk B W ⟨some ⟨g, 0, none⟩, n, c, l⟩ :=
  ⟨hn, hm, rdb_blk h hg, hl⟩
theorem cl_nil {W : World} {B : Nat} : ClOk B W ⟨none, 0, 0, []⟩ := ⟨rfl, Nat.zero_le _, fun h => absurd h (by simp), fun y h => by cases h⟩
theorem md_blk {W : World} {B g n : Nat} {t : TypeId} {m : List Bool} (h : Blk W g t (m.map Value.bool).toArray) (hg : g < B) (hn : n = m.length) (hm : n ≤ 9223372036854775807) : MdOk B W (some ⟨g, 0, none⟩) n m :=
  ⟨hn, hm, rdb_blk h hg⟩
theorem md_nil {W : World} {B : Nat} : MdOk B W none 0 [] := ⟨rfl, Nat.zero_le _, fun h => absurd h (by simp)⟩
theorem cls_blk {W : World} {B g n : Nat} {t : TypeId} {cs : List CV} (h : Blk W g t (cs.map CV.v).toArray) (hg : g < B) (hn : n = cs.length) (hm : n ≤ 9223372036854775807) (ha : ∀ x, x ∈ cs → ClOk B W x) : ClsOk B W (some ⟨g, 0, none⟩) n cs :=
  ⟨hn, hm, rdb_blk h hg, ha⟩
theorem cls_nil {W : World} {B : Nat} : ClsOk B W none 0 [] := ⟨rfl, Nat.zero_le _, fun h => absurd h (by simp), fun y h => by cases h⟩
end Go.Proofs.Ytbgfijnadfeleaa.Cl
