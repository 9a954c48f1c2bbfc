/- Trail: the iterator backward over literals, under whatever body; what holds between two rounds of Back. Plain theorems, conditions in each. -/
import Derived.Test.YtbbpebfgdcidjaaTt
import Derived.RangeFuncNested
import Derived.RangeFuncBound
import Derived.RangeFuncCalls
import Derived.RangeFuncLeaves
import Derived.Shelf.RegionOpen
import Derived.OwnWalkIn
import Derived.TacticsInMore
import Derived.LoopNIn
import Derived.LoopIn
namespace Go.Proofs.Ytbbpebfgdcidjaa.Ta
open Go.RowKit Go.Proofs.Ytbbpebfgdcidjaa.Mem Go.Proofs.Ytbbpebfgdcidjaa.Sl Go.Proofs.Ytbbpebfgdcidjaa.Cl Go.Proofs.Ytbbpebfgdcidjaa.App Go.Shelf
open Go.Proofs.Ytbbpebfgdcidjaa.FnL (enc_at below_then)
set_option linter.unusedVariables false
attribute [local go_sem] Oper.semAt_some

theorem backward_any (w : World) (sa : Option Addr) (sn sc : Nat) :
    Calls Try.prog 37 #[.slice sa sn sc] w fun e w' => e = .returned (.func (.func 51) #[] #[.pointer (some ⟨w.heap.size, 0, none⟩)]) ∧ w' = w.alloc (.cells #[.slice sa sn sc] 36) := by
  go_enter Try.func37, Try.ntmps37
  go_wp2
  go_ret
  exact ⟨rfl, rfl⟩
abbrev In (l : List Int) := { x : Int // x ∈ l }
def KpS (S : Nat → Prop) (W W' : World) : Prop := Mem.Mod S W W'
/-- Cells that no round turns. -/
def RdS (S : Nat → Prop) (w : World) (a : Option Addr) (vs : List Value) : Prop :=
  0 < vs.length → ∃ b off, a = some ⟨b, off, none⟩ ∧ ¬ S b ∧ b < w.heap.size ∧ ∀ i v, vs[i]? = some v → w.cell? ⟨b, off + i, none⟩ = some v
theorem back_stops (sa : Option Addr) (sn sc : Nat) (st : List Int) (hl : sn = st.length) (hm : sn ≤ 1000000) (S : Nat → Prop) (bn : Nat) (w0 : World) (hst : RdS S w0 sa (LI st)) (hbn : bn < w0.heap.size) (hbs : ¬ S bn)
    (hc : w0.cell? ⟨bn, 0, none⟩ = some (.slice sa sn sc)) (n : Nat) (hn : 1 ≤ n) :
    SeqStopsK Fence.wide n Try.prog 51 #[.pointer (some ⟨bn, 0, none⟩)] (fun x : In st => #[.int .i32 x.1]) (KpS S) (fun xs => xs.map Subtype.val = st.reverse) (fun _ => True) st.length w0 := fun l J Jx W hW _ _ hY h0 => by
  have HST := Lib.hid hst
  have HY := Lib.hid hY
  have HW := Lib.hid hW
  have HL := Lib.hid hl
  have H1 := Lib.hid (show bn < w0.heap.size ∧ ¬ S bn from ⟨hbn, hbs⟩)
  have hc0 : W.cell? ⟨bn, 0, none⟩ = some (.slice sa sn sc) := (hW.cell (p := ⟨bn, 0, none⟩) (by show bn < _; omega)).trans hc
  have HC0 := Lib.hid hc0
  have HJ0 := Lib.hid h0
  clear hst hY hW hbn hbs hc h0 hl
  refine callsIn_of_wp Try.func51 rfl trivial ?_ rfl
  simp only [Try.ntmps51, List.size_toArray, List.length_cons, List.length_nil, Nat.reduceAdd, Nat.reduceSub, Array.replicate_succ, Array.replicate_zero, List.push_toArray, List.append_toArray, List.nil_append, List.cons_append]
  have e1 : IntKind.i64.wrap ((sn : Int) - 1) = (sn : Int) - 1 := IntWalk.i64_in _ (by omega)
  gi_wp2
  clear e1
  gi_loopw [3] (fun p wr => ∃ (k : Nat) (pre : List (In st)), k ≤ sn ∧ p = .int .i64 ((k : Int) - 1) ∧ pre.map Subtype.val = (st.drop k).reverse ∧ J pre wr ∧ KpS S W wr)
    (fun p _ => (intOf p + 1).toNat)
  case atStart => exact ⟨sn, [], Nat.le_refl _, rfl, by rw [List.drop_of_length_le (by rw [← HL.out]; omega)]; rfl, HJ0.out, Mod.refl _ _⟩
  case round =>
    obtain ⟨k, pre, hk, rfl, hp, hJ, hK⟩ := hrel
    have HP := Lib.hid hp
    have HJ := Lib.hid hJ
    have HK := Lib.hid hK
    have hcr : wr.cell? ⟨bn, 0, none⟩ = some (.slice sa sn sc) := by
      have h1 := H1.out
      exact (World.cell?_of_block (hK.block bn (by have := HW.out.size; omega) h1.2)).trans HC0.out
    clear hp hJ hK
    rcases k with _ | k
    · rw [show (((0 : Nat) : Int) - 1) = -1 from rfl]
      gi_wp2
      refine ⟨fun f h => (by cases h), ?_⟩
      gi_wp2
      go_end0
      exact ⟨⟨_, rfl⟩, .inl ⟨pre, by have := HP.out; simpa using this, HJ.out⟩⟩
    · rw [show (((k + 1 : Nat) : Int) - 1) = (k : Int) by omega]
      have hkl : k < st.length := by rw [← HL.out]; omega
      obtain ⟨b, off, ha, hbS, hbl, hcs⟩ := HST.out (by simp [LI]; omega)
      have hc1 : wr.cell? ⟨b, off + k, none⟩ = some (.int .i32 (st[k]'hkl)) := by
        refine (World.cell?_of_block (HK.out.block b (by have := HW.out.size; omega) hbS)).trans ?_
        exact (HW.out.cell (p := ⟨b, off + k, none⟩) hbl).trans (hcs k _ (by simp [LI, hkl]))
      subst ha
      have HM := Lib.hid (show st[k]'hkl ∈ st from List.getElem_mem hkl)
      have HD := Lib.hid (show (st.drop k).reverse = (st.drop (k + 1)).reverse ++ [st[k]'hkl] by rw [List.drop_eq_getElem_cons hkl, List.reverse_cons])
      generalize st[k]'hkl = y at *
      obtain ⟨fn, tmps, assign, body, hy, hR⟩ := HY.out pre ⟨y, HM.out⟩ wr HJ.out (by
        have := congrArg List.length HP.out
        simp at this
        omega)
      dsimp only at hy
      clear hkl hbl hcs hbS
      have e1 : IntKind.i64.wrap ((k : Int) - 1) = (k : Int) - 1 := IntWalk.i64_in _ (by omega)
      gi_wp2
      refine hR.mono ?_
      rintro e W3 (⟨rfl, hJ3, hk3⟩ | ⟨rfl, hJx3⟩)
      · have HJ3 := Lib.hid hJ3
        have HK3 := Lib.hid hk3
        clear hJ3 hk3
        gi_wp2
        go_roundw
        case rel => exact ⟨k, pre ++ [⟨y, HM.out⟩], by omega, rfl, by rw [List.map_append, HP.out, HD.out]; rfl, HJ3.out, HK.out.then_ HK3.out⟩
        case measure => simp [intOf]
      · gi_wp2
        go_end0
        exact ⟨⟨_, rfl⟩, .inr ⟨_, trivial, hJx3⟩⟩
end Go.Proofs.Ytbbpebfgdcidjaa.Ta
