/- Queue: link: what it leaves. Conditions: the memory, places within the arrays. -/
import Derived.Test.YtgldhnjbodmbbaaQb
namespace Go.Proofs.Ytgldhnjbodmbbaa.Qu
open Go.RowKit Go.Proofs.Ytgldhnjbodmbbaa.Mem Go.Proofs.Ytgldhnjbodmbbaa.Sl Go.Shelf
open Go.Proofs.Ytgldhnjbodmbbaa.FnL (enc_at below_then)
set_option linter.unusedVariables false

def lnk (r : QR) (a b : Nat) : QR := { r with bh := updI r.bh a b, ah := updI r.ah b a }
set_option maxRecDepth 100000 in
theorem link_any {w : World} {base g : Nat} {r : QR} (h : QuR w base g r) (a b : Nat) (ha : a ≤ r.N) (hb : b ≤ r.N) (hN : r.N ≤ 1048576) : Calls Try.prog 28 #[.pointer (some ⟨g, 0, none⟩), .int .i64 (a : Int), .int .i64 (b : Int)] w fun e w' => e = .returned (.tuple #[]) ∧ QuR w' base g (lnk r a b) ∧ Mod (mine g r) w w' := by
  have c0 : w.cell? ⟨g, 0, none⟩ = some (.slice (some ⟨r.aA, 0, none⟩) (r.N + 1) r.ac) := h.blk.cell 0
  have c1 : w.cell? ⟨g, 1, none⟩ = some (.slice (some ⟨r.bA, 0, none⟩) (r.N + 1) r.bc) := h.blk.cell 1
  have ca : w.cell? ⟨r.aA, b, none⟩ = some (.int .i64 (r.ah b)) := h.a.cell (arr_at hb)
  have cb : w.cell? ⟨r.bA, a, none⟩ = some (.int .i64 (r.bh a)) := h.b.cell (arr_at ha)
  have fa : w.frozen? ⟨r.aA, b, none⟩ = false := h.a.frozen _
  have fb : w.frozen? ⟨r.bA, a, none⟩ = false := h.b.frozen _
  have n1 := h.ne
  have n2 : r.bA ≠ r.aA := fun e => h.ne e.symm
  have n3 := h.ga.1
  have n4 := h.ga.2.1
  have n5 : r.aA ≠ g := fun e => n3 e.symm
  have n6 : r.bA ≠ g := fun e => n4 e.symm
  have HF := Lib.hid (show QuR (((w.setCell ⟨r.bA, a, none⟩ (.int .i64 (b : Int))).setCell ⟨r.aA, b, none⟩ (.int .i64 (a : Int))).drew) base g (lnk r a b) ∧ Mod (mine g r) w (((w.setCell ⟨r.bA, a, none⟩ (.int .i64 (b : Int))).setCell ⟨r.aA, b, none⟩ (.int .i64 (a : Int))).drew) from
    ⟨(((h.setB ha _).setA (by exact hb) _).drewN 1), (((Mod.refl (mine g r) w).setCell (p := ⟨r.bA, a, none⟩) (.inl (.inr (.inr (.inl rfl)))) _).setCell (p := ⟨r.aA, b, none⟩) (.inl (.inr (.inl rfl))) _).drew⟩)
  have a1 : (a : Int) < (r.N : Int) + 1 := by omega
  have a2 : (0 : Int) ≤ (a : Int) := Int.natCast_nonneg _
  have a3 : a < r.N + 1 := by omega
  have b1 : (b : Int) < (r.N : Int) + 1 := by omega
  have b2 : (0 : Int) ≤ (b : Int) := Int.natCast_nonneg _
  have b3 : b < r.N + 1 := by omega
  clear h
  generalize r.ah b = x at *
  generalize r.bh a = y at *
  go_enter Try.func28, Try.ntmps28
  go_wp2_with fail
  go_region_held3 (fun w' => w'.cell? ⟨g, 0, none⟩ = some (.slice (some ⟨r.aA, 0, none⟩) (r.N + 1) r.ac) ∧ w'.cell? ⟨g, 1, none⟩ = some (.slice (some ⟨r.bA, 0, none⟩) (r.N + 1) r.bc)) (go_keep) (fail)
  all_goals go_wp2
  all_goals go_end0
  all_goals exact ⟨rfl, HF.out.1, HF.out.2⟩
end Go.Proofs.Ytgldhnjbodmbbaa.Qu
