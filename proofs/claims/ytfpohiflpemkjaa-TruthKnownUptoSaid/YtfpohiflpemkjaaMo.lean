/- The document's Model: the k-th model of n variables. -/
import Derived.Test.YtfpohiflpemkjaaLit
import Derived.Test.YtfpohiflpemkjaaApp
import Derived.Laws.Bits128
namespace Go.Proofs.Ytfpohiflpemkjaa.Mo
open Go.RowKit Go.Proofs.Ytfpohiflpemkjaa.Mem Go.Proofs.Ytfpohiflpemkjaa.Sl Go.Proofs.Ytfpohiflpemkjaa.Cl Go.Proofs.Ytfpohiflpemkjaa.App Go.Shelf
open Go.Proofs.Ytfpohiflpemkjaa.FnL (Pred enc_at below_then)
set_option linter.unusedVariables false

def modelB (n k : Nat) : List Bool := (List.range n).map (fun v => decide (k / 2 ^ v % 2 = 1))
theorem modelB_length (n k : Nat) : (modelB n k).length = n := by simp [modelB]
theorem modelB_succ (n k : Nat) : modelB (n + 1) k = modelB n k ++ [decide (k / 2 ^ n % 2 = 1)] := by
  unfold modelB; rw [List.range_succ, List.map_append]; rfl
theorem modelB_all (m : List Bool) : ∃ k, k < 2 ^ m.length ∧ modelB m.length k = m := by
  have key : ∀ n (m : List Bool), m.length = n → ∃ k, k < 2 ^ n ∧ modelB n k = m := by
    intro n
    induction n with
    | zero => intro m hm; exact ⟨0, by decide, by rw [List.eq_nil_of_length_eq_zero hm]; rfl⟩
    | succ n ih =>
      intro m hm
      obtain ⟨k, hk, hm2⟩ := ih (m.take n) (by simp; omega)
      have hlt : n < m.length := by omega
      have hm3 : m = m.take n ++ [m[n]'hlt] := by rw [← List.take_succ_eq_append_getElem hlt, ← hm, List.take_length]
      have hlow : ∀ j, j ≤ n → ∀ d, modelB j (k + d * 2 ^ n) = modelB j k := by
        intro j hj d
        unfold modelB
        refine List.map_congr_left fun v hv => ?_
        have hv' : v < j := by simpa using hv
        have e1 : 2 ^ n = 2 ^ v * 2 ^ (n - v) := by rw [← Nat.pow_add]; congr 1; omega
        have e2 : (k + d * 2 ^ n) / 2 ^ v = k / 2 ^ v + d * 2 ^ (n - v) := by
          rw [e1, show k + d * (2 ^ v * 2 ^ (n - v)) = k + 2 ^ v * (d * 2 ^ (n - v)) by
            rw [Nat.mul_left_comm], Nat.add_mul_div_left _ _ (Nat.pow_pos (by decide))]
        have e3 : 2 ^ (n - v) = 2 * 2 ^ (n - v - 1) := by rw [← Nat.pow_succ']; congr 1; omega
        rw [e2, e3, show d * (2 * 2 ^ (n - v - 1)) = 2 * (d * 2 ^ (n - v - 1)) by rw [Nat.mul_left_comm], Nat.add_mul_mod_self_left]
      cases hb : m[n]'hlt with
      | false =>
        refine ⟨k, by rw [Nat.pow_succ]; omega, ?_⟩
        rw [modelB_succ, hm2, hm3, hb, Nat.div_eq_of_lt hk]
        rw [List.take_append_of_le_length (by simp; omega), List.take_take, Nat.min_self]
        rfl
      | true =>
        refine ⟨k + 1 * 2 ^ n, by rw [Nat.pow_succ]; omega, ?_⟩
        rw [modelB_succ, hlow n (Nat.le_refl _) 1, hm2, hm3, hb, Nat.add_mul_div_right _ _ (Nat.pow_pos (by decide)), Nat.div_eq_of_lt hk]
        rw [List.take_append_of_le_length (by simp; omega), List.take_take, Nat.min_self]
        rfl
  exact key _ m rfl

theorem i64_and1 (n : Int) : bits .and .i64 n 1 = n % 2 := by
  have h127 : (BitVec.ofInt 64 1).toNat = 2 ^ 1 - 1 := by decide
  have key : (BitVec.ofInt 64 n &&& BitVec.ofInt 64 1).toNat = (n % ((2 ^ 64 : Nat) : Int)).toNat % 2 ^ 1 := by
    rw [BitVec.toNat_and, BitVec.toNat_ofInt, h127, Nat.and_two_pow_sub_one_eq_mod]
  show IntKind.i64.wrap ((BitVec.ofInt 64 n &&& BitVec.ofInt 64 1).toNat : Nat) = n % 2
  rw [key, IntKind.wrap_i64]
  omega
theorem bit_at (k v : Nat) : (bits .and .i64 ((k : Int) / 2 ^ v) 1 == 1) = decide (k / 2 ^ v % 2 = 1) := by
  rw [i64_and1, show ((k : Int) / 2 ^ v) = ((k / 2 ^ v : Nat) : Int) by simp]
  generalize k / 2 ^ v = x
  rw [show ((x : Int) % 2) = ((x % 2 : Nat) : Int) by omega]
  generalize x % 2 = y
  by_cases h : y = 1
  · subst h; rfl
  · rw [decide_eq_false h]; simpa using by omega
theorem model_any (n k : Nat) (hn : n ≤ 16) (hk : k < 2 ^ n) (w : World) :
    Calls Try.prog 19 #[.int .i64 n, .int .i64 k] w fun e w' => ∃ A c, e = .returned (.slice A n c) ∧ App.Own w' w.heap.size 4 A n c ((modelB n k).map Value.bool) ∧ Below w.heap.size w w' := by
  have hk2 : k < 65536 := Nat.lt_of_lt_of_le hk (Nat.le_trans (Nat.pow_le_pow_right (by decide) hn) (by decide))
  obtain ⟨i0, hi⟩ := Option.isSome_iff_exists.1 (show (Try.prog.info? 4).isSome = true by kernel_rfl)
  have hz : (Try.prog.info? 4).map (fun i => (i.zero, i.size, i.bytes)) = some (some (.bool false), 1, 1) := by kernel_rfl
  rw [hi] at hz
  injection hz with hz
  injection hz with hz0 hz
  injection hz with hz1 hz2
  have HI := Lib.hid hi
  have HZ0 := Lib.hid hz0
  have HZ1 := Lib.hid hz1
  have HZ2 := Lib.hid hz2
  clear hi hz0 hz1 hz2
  go_enter Try.func19, Try.ntmps19
  go_wp2_with fail
  go_loopw [5, 6] (fun s i wr => ∃ (v : Nat) (A : Option Addr) (c : Nat), v ≤ n ∧ i = .int .i64 v ∧ s = .slice A v c ∧ App.Own wr w.heap.size 4 A v c ((modelB v k).map Value.bool) ∧ Below w.heap.size w wr) (fun _ i _ => n - (intOf i).toNat)
  case atStart => exact ⟨0, none, 0, Nat.zero_le _, rfl, rfl, Own.nil _ _ _, Below.refl _ _⟩
  case round =>
    obtain ⟨v, A, c, hv, rfl, rfl, hO, hb⟩ := hrel
    have HO := Lib.hid hO
    have HB := Lib.hid hb
    clear hO hb
    by_cases hlt : v < n
    · obtain ⟨b, hb⟩ : ∃ b, b = decide (k / 2 ^ v % 2 = 1) := ⟨_, rfl⟩
      have hbit : (bits .and .i64 ((k : Int) / 2 ^ v) 1 == 1) = b := by rw [bit_at, hb]
      have HS := Lib.hid (show (modelB (v + 1) k).map Value.bool = (modelB v k).map Value.bool ++ [Value.bool b] by rw [modelB_succ, List.map_append, hb]; rfl)
      have HOW := Lib.hid fun (v' : Value) (w2 : World) (hown : w2.ownsRow w.heap.size 4 1 v' (v + 1) ((modelB v k).map Value.bool ++ [Value.bool b])) => Own.of hown
      have HBW := Lib.hid (show Below w.heap.size w (wr.alloc (.cells #[Value.bool b] 4)) from HB.out.alloc HB.out.size _)
      clear hb
      go_wp2_with (at_builtin; refine wpList_app rfl _ _ 23 rfl w.heap.size 4 i0 (.bool false) 1 Try.underlying23 HI.out HZ0.out HZ1.out HZ2.out rfl (.slice A v c) v ((modelB v k).map Value.bool) rfl (HO.out.alloc _).own (some ⟨wr.heap.size, 0, none⟩) 1 1 [.bool b] rfl rfl (RdV.blk (rest := []) (Blk.new wr 4 #[.bool b])) (fun h => by cases h) (fun u hu => by simp at hu; subst hu; rfl) (by unfold maxLen; omega) (by omega) HBW.out.size ?_; intro v' w2 hown hgrow; obtain ⟨A2, c2, rfl, hO2⟩ := HOW.out v' w2 hown; have HO2 := Lib.hid hO2; have HB2 := Lib.hid (show Below w.heap.size w w2 from HBW.out.trans ((Mod.grown hgrow).below (fun i _ e => HO.out.block e) HBW.out.size)); clear hown hgrow hO2)
      go_roundw
      case rel => exact ⟨v + 1, A2, c2, by omega, by go_num, rfl, by rw [HS.out]; exact HO2.out, HB2.out⟩
      case measure => simp [intOf]; omega
    · obtain rfl : v = n := by omega
      go_wp2
      go_ret
      exact ⟨A, c, rfl, HO.out, HB.out⟩
end Go.Proofs.Ytfpohiflpemkjaa.Mo
