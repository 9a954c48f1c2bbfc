/- slices.Repeat of one number: a row of n of them (n at most 1100000). -/
import Derived.Test.YtienomdennbkpaaFnB
import Derived.Test.YtienomdennbkpaaShelf
import Derived.Deep.QuietTactic
import Derived.BigQuiet
import Derived.StillTailTactics
import Derived.Laws.CopyOwn
import Derived.Deep.OwnRows
import Derived.Deep.RegionLaw
import Derived.IntWalk
import Derived.Deep.CutBlock
import Derived.Deep.DeepCutAuto
namespace Go.Proofs.Ytienomdennbkpaa.He
open Go.RowKit Go.Proofs.Ytienomdennbkpaa.Mem Go.Proofs.Ytienomdennbkpaa.Sl Go.Shelf
open Go.Proofs.Ytienomdennbkpaa.FnL (enc_at below_then)
set_option linter.unusedVariables false

theorem infoB : (Try.prog.info? 3).map (fun i => (i.zero, i.size, i.bytes)) = some (some (.int .i64 0), 1, 8) := by kernel_rfl
theorem sizeB : (Try.prog.info? 3).map (·.size) = some 1 := by kernel_rfl
theorem made_one (z : Value) (n : Nat) : madeCells #[z] n = (List.replicate n z).toArray := by
  apply Array.ext
  · simp [madeCells]
  · intro i h1 h2
    simp [madeCells]
    have : i % 1 = 0 := Nat.mod_one i
    simp [this]
/-- The row behind k of n. -/
def half (s : Int) (k n : Nat) : List Value := List.replicate k (.int .i64 s) ++ List.replicate (n - k) (.int .i64 0)
theorem half_len (s : Int) (k n : Nat) (h : k ≤ n) : (half s k n).length = n := by simp [half]; omega
theorem half_zero (s : Int) (n : Nat) : half s 0 n = List.replicate n (.int .i64 0) := by simp [half]
theorem half_all (s : Int) (n : Nat) : half s n n = List.replicate n (.int .i64 s) := by simp [half]
theorem half_next (s : Int) (k m n : Nat) (h : k + m ≤ n) : splice (half s k n) k (List.replicate m (.int .i64 s)) = half s (k + m) n := by
  unfold splice half
  rw [List.take_left' (by simp), List.length_replicate, List.drop_append, List.drop_of_length_le (by simp), List.nil_append, List.length_replicate]
  rw [show k + m - k = m by omega, List.drop_replicate, ← List.append_assoc, List.replicate_append_replicate, Nat.sub_sub]
theorem repeat_ok (s : Int) (b : Nat) (n : Nat) (w : World) (hn : n ≤ 1100000) (hc : w.cell? ⟨b, 0, none⟩ = some (.int .i64 s)) :
    Calls Try.prog 28 #[.slice (some ⟨b, 0, none⟩) 1 1, .int .i64 n] w fun e w' => e = .returned (.slice (some ⟨w.heap.size, 0, none⟩) n n) ∧
      Row w' w.heap.size 3 (List.replicate n (.int .i64 s)) n ∧ Below w.heap.size w w' := by
  have hmk : ∀ W, (Instr.makeSlice 31 (.int .i64 (n : Int)) (.int .i64 (n : Int))).run Try.prog W = .ok (.slice (some ⟨W.heap.size, 0, none⟩) n n) (W.alloc (.cells (madeCells #[.int .i64 0] n) 3)) := fun W =>
    run_make_row' _ _ (.int .i64 0) 8 Try.underlying31 infoB rfl .i64 .i64 n (by omega) (by omega) W
  have hx : IntKind.u64.wrap (n : Int) = n := IntWalk.u64_in _ (by omega)
  have hlt := World.block_lt_of_cell? w _ hc
  go_enter Try.func28, Try.ntmps28
  go_wp2_with fail
  refine (Try.bits_Mul 1 n (by omega) (by omega) _).mono ?_
  rintro e w' ⟨rfl, rfl⟩
  rw [show 1 * n / 18446744073709551616 = 0 by omega, show 1 * n % 18446744073709551616 = n by omega]
  clear hx
  go_upto_region 7 with (fail)
  obtain ⟨W, hW⟩ : ∃ W, W = w'.alloc (.cells (madeCells #[.int .i64 0] n) 3) := ⟨_, rfl⟩
  rw [← hW]
  have HG := Lib.hid (show W.heap[w'.heap.size]? = some (.cells (half s 0 n).toArray 3 (0, 0)) by
    rw [hW, half_zero, ← made_one]; exact heap_alloc_new w' _)
  have HB := Lib.hid (show Below w'.heap.size w' W from hW ▸ (Below.refl _ _).alloc (Nat.le_refl _) _)
  have hcW : W.cell? ⟨b, 0, none⟩ = some (.int .i64 s) := (HB.out.cell (p := ⟨b, 0, none⟩) hlt).trans hc
  have HCW := Lib.hid hcW
  clear hW hc hmk hcW
  obtain ⟨cs, hcs⟩ : ∃ cs, cs = List.replicate (min 1 n) (Value.int .i64 s) := ⟨_, rfl⟩
  have HCS := Lib.hid hcs
  have hlc := Lib.hid (show cs.length = min 1 n by rw [hcs, List.length_replicate])
  clear hcs
  generalize hgw : w'.heap.size = g at *
  have HGW := Lib.hid hgw
  clear hgw
  go_wp2_with (with_reducible refine wpList_copy_splice rfl (.tmp 31) (.tmp 32) 31 31 rfl 3 Try.underlying31 sizeB (some ⟨g, 0, none⟩) (some ⟨b, 0, none⟩) n n 1 1 rfl rfl g 0 (half s 0 n) 3 HG.out cs ?c1 ?c2 ?c3 ?c4 g w' HB.out (Nat.le_refl _) ?_)
  case c1 => exact hlc.out
  case c2 =>
    intro _
    intro j v hj
    rw [HCS.out, List.getElem?_replicate] at hj
    split at hj
    · rename_i hj2
      obtain rfl : j = 0 := by omega
      injection hj with hj
      subst hj
      exact HCW.out
    · cases hj
  case c3 => rw [hlc.out, half_len _ _ _ (Nat.zero_le _)]; omega
  case c4 =>
    intro v hv
    rw [HCS.out] at hv
    rw [List.eq_of_mem_replicate hv]
    rfl
  intro w2 HG2 hB2
  have HG3 := Lib.hid (show w2.heap[g]? = some (.cells (half s (min 1 n) n).toArray 3 (0, 0)) by
    have := HG2.out
    rw [HCS.out, half_next s 0 (min 1 n) n (by omega), Nat.zero_add] at this
    exact this)
  have HB2 := Lib.hid hB2
  clear hB2 HG2 HG
  rw [hlc.out]
  clear hlc HCS HCW HB
  generalize cs = cs0 at *
  go_wp2_with fail
  go_loopw [8] (fun v wr => ∃ k : Nat, k ≤ n ∧ (1 ≤ k ∨ n = 0) ∧ v = .int .i64 k ∧ wr.heap[g]? = some (.cells (half s k n).toArray 3 (0, 0)) ∧ Below g w' wr) (fun v _ => n - (intOf v).toNat)
  case atStart => exact ⟨min 1 n, by omega, by omega, rfl, HG3.out, HB2.out⟩
  case round =>
    obtain ⟨k, hk, hk1, rfl, hG, hB⟩ := hrel
    have HG := Lib.hid hG
    have HB := Lib.hid hB
    clear hG hB
    by_cases hlt : k < n
    · obtain ⟨ds, hds⟩ : ∃ ds, ds = List.replicate (min k (n - k)) (Value.int .i64 s) := ⟨_, rfl⟩
      have HDS := Lib.hid hds
      have hld := Lib.hid (show ds.length = min k (n - k) by rw [hds, List.length_replicate])
      clear hds
      go_wp2_with fail
      have hsrc : ∀ j v, ds[j]? = some v → wr.cell? ((⟨g, 0, none⟩ : Addr).add j) = some v := fun j v hj => by
        rw [HDS.out, List.getElem?_replicate] at hj
        split at hj
        · rename_i hj2
          injection hj with hj
          subst hj
          have hcell := cell_of_row wr g j (half s k n).toArray 3 (0, 0) HG.out
          rw [show (⟨g, 0, none⟩ : Addr).add j = ⟨g, j, none⟩ by unfold Addr.add; split <;> simp_all, hcell]
          simp [half, List.getElem?_append_left, show j < k by omega]
        · cases hj
      have HSRC := Lib.hid hsrc
      clear hsrc
      have HP1 := Lib.hid (show 0 < ds.length → some (⟨g, k, none⟩ : Addr) = some ⟨g, k, none⟩ ∧ ∃ ad, some (⟨g, 0, none⟩ : Addr) = some ad ∧ ∀ j v, ds[j]? = some v → wr.drew.cell? (ad.add j) = some v from fun _ => ⟨rfl, ⟨g, 0, none⟩, rfl, HSRC.out⟩)
      have HP2 := Lib.hid (show k + ds.length ≤ (half s k n).length by rw [hld.out, half_len _ _ _ hk]; omega)
      have HP3 := Lib.hid (show ∀ v ∈ ds, v.oneCell' = true from fun v hv => by rw [HDS.out] at hv; rw [List.eq_of_mem_replicate hv]; rfl)
      have hk0 : (0 : Int) ≤ (k : Int) := Int.natCast_nonneg _
      have hk2 : (k : Int) ≤ (n : Int) := by omega
      have hnk : ¬ n = k := by omega
      go_region_law ((refine step_copy_splice (by rfl) (.tmp 41) (.tmp 44) 31 31 (by rfl) 3 Try.underlying31 sizeB (some ⟨g, k, none⟩) (some ⟨g, 0, none⟩) (n - k) (n - k) k n (by simp [Act.eval, Act.put]) (by simp [Act.eval, Act.put]) g k (half s k n) 3 (show wr.drew.heap[g]? = _ from HG.out) ds hld.out HP1.out HP2.out HP3.out g w' (Below.drew HB.out) (Nat.le_refl _) ?_; intro w3 HG4 hB3))
      have HG5 := Lib.hid (show w3.heap[g]? = some (.cells (half s (k + min k (n - k)) n).toArray 3 (0, 0)) by
        have := HG4.out
        rw [HDS.out, half_next s k (min k (n - k)) n (by omega)] at this
        exact this)
      have HB5 := Lib.hid hB3
      clear hB3 HG4 HG HSRC
      have hl5 := hld.out
      rw [hl5]
      clear hl5 hld HDS
      have hk5 : 1 ≤ min k (n - k) := by omega
      have hk6 : k + min k (n - k) ≤ n := by omega
      generalize min k (n - k) = m at *
      have hwr : IntKind.i64.wrap ((k : Int) + (m : Int)) = (k : Int) + m := IntWalk.i64_in _ (by omega)
      go_wp2
      clear hwr
      go_roundw
      case rel => exact ⟨k + m, hk6, by omega, by go_num, HG5.out, HB5.out⟩
      case measure => simp [intOf]; omega
    · have hkn : k = n := by omega
      subst hkn
      have HR := Lib.hid (show Row wr g 3 (List.replicate k (.int .i64 s)) k from ⟨[], by
        have := HG.out
        rw [half_all] at this
        simpa [Blk] using this, by simp⟩)
      clear HG hlt
      go_wp2
      have hgw := HGW.out
      clear HGW
      subst hgw
      go_ret
      exact ⟨rfl, HR.out, HB.out⟩
end Go.Proofs.Ytienomdennbkpaa.He
