/- Facts for CnfKnown: rows of clauses that are laid, cut, made. Plain theorems, no condition. -/
import Derived.Test.YtbgfijnadfeleaaLc
import Derived.Test.YtbgfijnadfeleaaLd
import Derived.Test.YtbgfijnadfeleaaLe
import Derived.Test.YtbgfijnadfeleaaLg
import Derived.Laws.MakeOwn
namespace Go.Proofs.Ytbgfijnadfeleaa.La
open Go.RowKit Go.Proofs.Ytbgfijnadfeleaa.Mem Go.Proofs.Ytbgfijnadfeleaa.Sl Go.Proofs.Ytbgfijnadfeleaa.Cl Go.Proofs.Ytbgfijnadfeleaa.App Go.Proofs.Ytbgfijnadfeleaa.Cm Go.Shelf
open Go.Proofs.Ytbgfijnadfeleaa.Tr (rightE flat scan)
set_option linter.unusedVariables false

theorem infoCl : (Try.prog.info? 23).map (fun i => (i.zero, i.size, i.bytes)) = some (some (.slice none 0 0), 1, 24) := by kernel_rfl
theorem madeOne (z : Value) (n : Nat) : madeCells #[z] n = (List.replicate n z).toArray := by
  apply Array.ext
  · simp [madeCells]
  · intro i h1 h2
    simp [madeCells, Nat.mod_one]
def nilCV : CV := ⟨none, 0, 0, []⟩
theorem nil_row (n : Nat) : (List.replicate n nilCV).map CV.v = List.replicate n (Value.slice none 0 0) := by rw [List.map_replicate]; rfl
theorem nil_clOk {B : Nat} {w : World} {n : Nat} : ∀ x, x ∈ List.replicate n nilCV → ClOk B w x := fun x hx => by
  rw [List.eq_of_mem_replicate hx]; exact cl_nil
theorem flat_nil (n : Nat) : flat (List.replicate n nilCV) = [] := by
  induction n with
  | zero => rfl
  | succ n ih => rw [List.replicate_succ]; unfold flat at *; rw [List.flatMap_cons, ih]; rfl
theorem right_nil (n : Nat) : rightE 0 (List.replicate n nilCV) = if 1048576 < n then 3 else 0 := by
  unfold rightE
  rw [if_neg (by omega), List.length_replicate, flat_nil]
  rfl
/-- A row of empty clauses, from its beginning or from its second on. -/
theorem nil_cls {w : World} {g n off k : Nat} {t : TypeId} (h : Blk w g t (List.replicate n (Value.slice none 0 0)).toArray) (hk : off + k ≤ n) (hn : n ≤ 9223372036854775807) : ClsOk w.heap.size w (some ⟨g, off, none⟩) k (List.replicate k nilCV) :=
  ⟨by simp, by omega, fun _ => ⟨g, off, rfl, h.lt, fun i v hi => by
    rw [nil_row] at hi
    have hlt : i < k := by simpa using (List.getElem?_eq_some_iff.1 hi).1
    rw [h.cell (off + i)]
    rw [List.getElem?_replicate_of_lt hlt] at hi
    rw [← hi]
    simp [show off + i < n by omega]⟩, nil_clOk⟩
theorem cls_take {B : Nat} {w : World} {a : Option Addr} {n : Nat} {cs : List CV} (h : ClsOk B w a n cs) {k : Nat} (hk : k ≤ n) : ClsOk B w a k (cs.take k) := by
  have := h.ln
  have := h.mx
  refine ⟨by simp; omega, by omega, fun hp => ?_, fun x hx => h.all x (List.mem_of_mem_take hx)⟩
  rw [List.map_take] at hp
  rw [List.map_take]
  obtain ⟨b, off, e, hb, hc⟩ := h.rd (by simp at hp ⊢; omega)
  exact ⟨b, off, e, hb, fun i v hi => hc i v (by
    rw [List.getElem?_take] at hi
    split at hi
    · exact hi
    · cases hi)⟩
theorem cls_one {w : World} (x : CV) (t : TypeId) (hx : ClOk w.heap.size w x) : ClsOk (w.alloc (.cells #[x.v] t)).heap.size (w.alloc (.cells #[x.v] t)) (some ⟨w.heap.size, 0, none⟩) 1 [x] := by
  have hb : Below w.heap.size w (w.alloc (.cells #[x.v] t)) := (Below.refl _ _).alloc (Nat.le_refl _) _
  exact cls_blk (cs := [x]) (Blk.new w t #[x.v]) (by simp) rfl (by decide) fun z hz => by
    obtain rfl := List.mem_singleton.1 hz
    exact (hx.below hb).up hb.size
/-- A model's value. -/
structure MV where
  A : Option Addr
  n : Nat
  m : List Bool
def MV.v (x : MV) : Value := .slice x.A x.n x.n
end Go.Proofs.Ytbgfijnadfeleaa.La
