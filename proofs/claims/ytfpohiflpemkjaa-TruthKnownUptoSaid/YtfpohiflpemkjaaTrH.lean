/- truth.Find: the plain words of the first model, and the walk. -/
import Derived.Test.YtfpohiflpemkjaaTrG
import Derived.OwnWalk
namespace Go.Proofs.Ytfpohiflpemkjaa.Tr
open Go.RowKit Go.Proofs.Ytfpohiflpemkjaa.Mem Go.Proofs.Ytfpohiflpemkjaa.Sl Go.Proofs.Ytfpohiflpemkjaa.Cl Go.Proofs.Ytfpohiflpemkjaa.Mo Go.Shelf
open Go.Proofs.Ytfpohiflpemkjaa.FnL (Pred enc_at below_then)
set_option linter.unusedVariables false

def satB (V : Nat) (cs : List CV) (k : Nat) : Bool := holdsB (modelB V k) cs
theorem satM_satB (V : Nat) (hV : V ≤ 16) (cs : List CV) (hl : ∀ x, x ∈ cs → ∀ y, y ∈ x.l → 1 ≤ varI y ∧ varI y ≤ V) (k : Nat) (hk : k < 2 ^ V) : satM (cs.map fun x => maskOf x.l) k = satB V cs k := by
  unfold satM satB holdsB
  rw [List.all_map]
  have key : ∀ x, x ∈ cs → (fun m => holdsM m k) (maskOf x.l) = valB (modelB V k) x.l := fun x hx => holdsM_val V k hV hk x.l (hl x hx)
  rw [Bool.eq_iff_iff, List.all_eq_true, List.all_eq_true]
  exact forall_congr' fun x => forall_congr' fun hx => by
    show holdsM (maskOf x.l) k = true ↔ _
    rw [← key x hx]
theorem firstF_cases (p : Nat → Bool) : ∀ (d k : Nat), (firstF p d k = -1 ∧ ∀ i, k ≤ i → i < k + d → p i = false) ∨ ∃ j : Nat, firstF p d k = j ∧ k ≤ j ∧ j < k + d ∧ p j = true ∧ ∀ i, k ≤ i → i < j → p i = false
  | 0, k => .inl ⟨rfl, fun i h1 h2 => by omega⟩
  | d + 1, k => by
    unfold firstF
    cases hp : p k with
    | true => exact .inr ⟨k, rfl, Nat.le_refl _, by omega, hp, fun i h1 h2 => by omega⟩
    | false =>
      simp only [Bool.false_eq_true, if_false]
      rcases firstF_cases p d (k + 1) with ⟨h1, h2⟩ | ⟨j, h1, h2, h3, h4, h5⟩
      · exact .inl ⟨h1, fun i h3 h4 => by
          by_cases e : i = k
          · subst e; exact hp
          · exact h2 i (by omega) (by omega)⟩
      · exact .inr ⟨j, h1, by omega, by omega, h4, fun i h6 h7 => by
          by_cases e : i = k
          · subst e; exact hp
          · exact h5 i (by omega) h7⟩
/-- What is found. -/
def findS (N : Int) (cs : List CV) : List Bool × Bool × Int :=
  if takenE N cs = 0 then (if 0 ≤ firstF (satB N.toNat cs) (2 ^ N.toNat) 0 then (modelB N.toNat (firstF (satB N.toNat cs) (2 ^ N.toNat) 0).toNat, true, 0) else ([], false, 0)) else ([], false, takenE N cs)
def FindR (base : Nat) (N : Int) (cs : List CV) (e : Ending) (w' : World) : Prop :=
  ∃ A c, e = .returned (.tuple #[.slice A (findS N cs).1.length c, .bool (findS N cs).2.1, .int .i64 (findS N cs).2.2]) ∧ App.Own w' base 4 A (findS N cs).1.length c ((findS N cs).1.map Value.bool)
theorem FindR.of {base : Nat} {N : Int} {cs : List CV} {w' : World} {m : List Bool} {ok : Bool} {er : Int} (h : findS N cs = (m, ok, er)) {A : Option Addr} {c : Nat} (ho : App.Own w' base 4 A m.length c (m.map Value.bool)) :
    FindR base N cs (.returned (.tuple #[.slice A m.length c, .bool ok, .int .i64 er])) w' := by
  unfold FindR
  rw [h]
  exact ⟨A, c, rfl, ho⟩
theorem made_one (z : Value) (n : Nat) : madeCells #[z] n = (List.replicate n z).toArray := by
  apply Array.ext
  · simp [madeCells]
  · intro i h1 h2
    simp [madeCells]
    have : i % 1 = 0 := Nat.mod_one i
    simp [this]
theorem infoB : (Try.prog.info? 4).map (fun i => (i.zero, i.size, i.bytes)) = some (some (.bool false), 1, 1) := by kernel_rfl
/-- The formula's own holds, asked as a method value. -/
theorem want_holds {w : World} {B : Nat} (hB : B ≤ w.heap.size) (V : Nat) (hV : V ≤ 16) (A : Option Addr) (n c : Nat) (cs : List CV) (hm : MsOk B w A n (cs.map fun x => maskOf x.l)) (hl : ∀ x, x ∈ cs → ∀ y, y ∈ x.l → 1 ≤ varI y ∧ varI y ≤ V) :
    Want 46 #[frV V A n c] #[] (satB V cs) (2 ^ V) w :=
  ⟨enters_of Try.func46 (by kernel_rfl) rfl, fun k hk W hb => by
    have h2 : 2 ^ V ≤ 65536 := Nat.le_trans (Nat.pow_le_pow_right (by decide) hV) (by decide)
    rw [← satM_satB V hV cs hl k hk]
    exact fholds_any (B := B) (Nat.le_trans hB hb.size) V A n c _ (hm.below (hb.mono hB)) k (by omega)⟩
set_option maxRecDepth 100000 in
theorem Find_any {B : Nat} {w : World} (hB : B ≤ w.heap.size) (N : Int) (ca : Option Addr) (cn cc : Nat) (cs : List CV) (hcs : ClsOk B w ca cn cs) :
    Calls Try.prog 22 #[.agg #[.int .i64 N, .slice ca cn cc]] w fun e w' => FindR w.heap.size N cs e w' ∧ Below w.heap.size w w' := by
  have HS := Lib.hid hB
  have HCS := Lib.hid hcs
  clear hB hcs
  go_enter Try.func22, Try.ntmps22
  go_upto_region 1 with (fail)
  obtain ⟨W0, hW0⟩ : ∃ W0, W0 = w.alloc (.cells #[.int .i64 N, .slice ca cn cc] 34) := ⟨_, rfl⟩
  rw [← hW0]
  have HB0 := Lib.hid (show Below w.heap.size w W0 from hW0 ▸ ((Below.refl _ w).alloc (Nat.le_refl _) _))
  have K0 := Lib.hid (show Blk W0 w.heap.size 34 #[.int .i64 N, .slice ca cn cc] from hW0 ▸ Blk.new w _ _)
  have HW0 := Lib.hid (show W0.heap.size = w.heap.size + 1 by rw [hW0]; simp)
  clear hW0
  have q1 : W0.cell? ⟨w.heap.size, 0, none⟩ = some (.int .i64 N) := K0.out.cell 0
  have q2 : W0.cell? ⟨w.heap.size, 1, none⟩ = some (.slice ca cn cc) := K0.out.cell 1
  have HC := Lib.hid (take_any (Nat.le_trans HS.out HB0.out.size) N ca cn cc cs (HCS.out.below (HB0.out.mono HS.out)))
  go_wp2_with fail
  refine HC.out.mono ?_
  rintro e w1 ⟨hT, hb1⟩
  have HB1 := Lib.hid (below_then HB0.out hb1 HB0.out.size)
  have HZ1 := Lib.hid hb1.size
  have K01 := Lib.hid (K0.out.below hb1)
  clear hb1 q1 q2 HC
  rcases hT with ⟨hne, rfl⟩ | ⟨h0, V, A, n, c, hV, hV16, rfl, hms⟩
  · have HE := Lib.hid (show findS N cs = ([], false, takenE N cs) from if_neg hne)
    have hne' : (takenE N cs == 0) = false := by simpa using hne
    clear hne
    generalize takenE N cs = er at *
    go_wp2
    go_ret3
    exact ⟨.of HE.out (App.Own.nil _ _ _), (HB1.out.alloc HB1.out.size _)⟩
  · subst hV
    have HL := Lib.hid (taken_ok h0).2.2.2.2
    obtain ⟨p, hp⟩ : ∃ p, p = satB V cs := ⟨_, rfl⟩
    have HE := Lib.hid (show findS (V : Int) cs = if 0 ≤ firstF p (2 ^ V) 0 then (modelB V (firstF p (2 ^ V) 0).toNat, true, 0) else ([], false, 0) by rw [hp]; exact if_pos h0)
    have HMS := Lib.hid hms
    have HP := Lib.hid hp
    clear hms h0 hp
    obtain ⟨W1, hW1⟩ : ∃ W1, W1 = w1.alloc (.cells #[.int .i64 V, .slice A n c] 73) := ⟨_, rfl⟩
    have HBX := Lib.hid (show Below w1.heap.size w1 W1 from hW1 ▸ ((Below.refl _ w1).alloc (Nat.le_refl _) _))
    have HWA := Lib.hid (want_holds (w := W1) HBX.out.size V hV16 A n c cs (HMS.out.below HBX.out) HL.out)
    rw [← HP.out] at HWA
    have HC := Lib.hid (first_any V hV16 A n c 0 (Nat.zero_le _) 46 #[frV V A n c] #[] p HWA.out)
    have HPB := Lib.hid (firstF_cases p (2 ^ V) 0)
    have HPW := Lib.hid (show 2 ^ V ≤ 65536 from Nat.le_trans (Nat.pow_le_pow_right (by decide) hV16) (by decide))
    clear HWA
    unfold frV at HC ⊢
    go_upto_region 4 with (fail)
    rw [← hW1]
    have KT := Lib.hid (show Blk W1 w1.heap.size 73 #[.int .i64 V, .slice A n c] from hW1 ▸ Blk.new w1 _ _)
    have HW1 := Lib.hid (show W1.heap.size = w1.heap.size + 1 by rw [hW1]; simp)
    clear hW1
    have t0 : W1.cell? ⟨w1.heap.size, 0, none⟩ = some (.int .i64 V) := KT.out.cell 0
    have t1 : W1.cell? ⟨w1.heap.size, 1, none⟩ = some (.slice A n c) := KT.out.cell 1
    go_wp2_with fail
    refine HC.out.mono ?_
    rintro e w2 ⟨rfl, hb2⟩
    have HB2 := Lib.hid (below_then (below_then HB1.out HBX.out HB1.out.size) hb2 (Nat.le_trans HB1.out.size HBX.out.size))
    have q3 : w2.cell? ⟨w.heap.size, 0, none⟩ = some (.int .i64 V) := ((K01.out.below HBX.out).below hb2).cell 0
    clear hb2 t0 t1 HC
    rw [show 2 ^ V - 0 = 2 ^ V from rfl]
    rcases HPB.out with ⟨h1, _⟩ | ⟨k, h1, _, h3, _, _⟩
    · have HF := Lib.hid (HE.out.trans (if_neg (by rw [h1]; decide)))
      rw [h1]
      clear h1
      go_wp2
      go_ret3
      exact ⟨.of HF.out (App.Own.nil _ _ _), HB2.out⟩
    · have HF := Lib.hid (HE.out.trans (if_pos (by rw [h1]; exact Int.natCast_nonneg _)))
      rw [h1] at HF ⊢
      have hmk : ∀ W, (Instr.makeSlice 23 (.int .i64 (V : Int)) (.int .i64 (V : Int))).run Try.prog W = .ok (.slice (some ⟨W.heap.size, 0, none⟩) V V) (W.alloc (.cells (madeCells #[.bool false] V) 4)) := fun W =>
        run_make_row' _ _ (.bool false) 1 Try.underlying23 infoB rfl .i64 .i64 V (by omega) (by omega) W
      have HKV := Lib.hid (show k < 2 ^ V by omega)
      have hk2 : k < 65536 := by have := HPW.out; omega
      clear h1 h3
      go_upto_region 8 with (fail)
      obtain ⟨W2, hW2⟩ : ∃ W2, W2 = w2.alloc (.cells (madeCells #[.bool false] V) 4) := ⟨_, rfl⟩
      rw [← hW2]
      have HO := Lib.hid (show App.Own W2 w.heap.size 4 (some ⟨w2.heap.size, 0, none⟩) V V (List.replicate V (.bool false)) by
        rw [hW2, made_one]
        refine ⟨by simp, .inr ⟨_, rfl, HB2.out.size, by unfold maxLen; omega, ?_⟩⟩
        have := Row.new w2 4 (List.replicate V (Value.bool false))
        simpa using this)
      have HB3 := Lib.hid (show Below w.heap.size w W2 from hW2 ▸ HB2.out.alloc HB2.out.size _)
      have HG := Lib.hid (show w.heap.size ≤ w2.heap.size from HB2.out.size)
      clear hW2 q3
      generalize w2.heap.size = g at *
      go_wp2_with fail
      go_loopg [29] V (fun M i wr => ∃ (j : Nat) (xs : List Value), M + j = V ∧ i = .int .i64 j ∧ App.Own wr w.heap.size 4 (some ⟨g, 0, none⟩) V V xs ∧ xs.take j = ((modelB V k).map Value.bool).take j ∧ Below w.heap.size w wr)
      case atStart => exact ⟨0, _, rfl, rfl, HO.out, rfl, HB3.out⟩
      case round =>
        obtain ⟨j, xs, hM, rfl, hO, hx, hb⟩ := hrel
        have HM := Lib.hid hM
        have HO := Lib.hid hO
        have HX := Lib.hid hx
        have HB := Lib.hid hb
        clear hM hO hx hb
        by_cases hlt : j < V
        · have HLX := Lib.hid HO.out.1
          obtain ⟨g', eg, hg', HR⟩ := HO.out.row (by omega)
          cases eg
          have HR := Lib.hid HR
          obtain ⟨b, hbb⟩ : ∃ b, b = decide (k / 2 ^ j % 2 = 1) := ⟨_, rfl⟩
          have hbit : (bits .and .i64 ((k : Int) / 2 ^ j) 1 == 1) = b := by rw [bit_at, hbb]
          have HN := Lib.hid (show (xs.set j (Value.bool b)).take (j + 1) = ((modelB V k).map Value.bool).take (j + 1) by
            rw [List.take_set, List.take_succ_eq_append_getElem (show j < xs.length by rw [← HLX.out]; exact hlt), HX.out, List.take_succ_eq_append_getElem (l := (modelB V k).map Value.bool) (by simp [modelB_length]; omega)]
            rw [List.set_append_right _ _ (by simp [modelB_length]; omega)]
            simp [Nat.min_eq_left (Nat.le_of_lt hlt), hbb, modelB])
          have HSET := Lib.hid (HO.out.set_ j hlt (.bool b))
          obtain ⟨v0, q0⟩ : ∃ v, wr.cell? ⟨g, j, none⟩ = some v := ⟨_, HR.out.cell (List.getElem?_eq_getElem (show j < xs.length by rw [← HLX.out]; exact hlt))⟩
          have q1 : wr.frozen? ⟨g, j, none⟩ = false := HR.out.frozen j
          have HBS := Lib.hid (HB.out.setCell (p := ⟨g, j, none⟩) HG.out (.bool b))
          clear hbb
          go_wp2_with fail
          go_roundg (gk - 1)
          case measure => have := HM.out; omega
          case rel => exact ⟨j + 1, _, by have := HM.out; omega, by go_num, HSET.out, HN.out, HBS.out⟩
        · have HJ := Lib.hid (show j = V by have := HM.out; omega)
          go_wp2_with fail
          go_ret3
          have hml := modelB_length V k
          have := FindR.of (base := w.heap.size) (w' := wr) HF.out (A := some ⟨g, 0, none⟩) (c := V) (by
            rw [show (Int.toNat (k : Int)) = k from rfl, hml]
            have h1 := HX.out
            rw [HJ.out, List.take_of_length_le (by rw [← HO.out.1]; exact Nat.le_refl _), List.take_of_length_le (by simp [hml])] at h1
            rw [← h1]
            exact HO.out)
          rw [show (Int.toNat (k : Int)) = k from rfl, hml] at this
          exact ⟨this, HB.out⟩
end Go.Proofs.Ytfpohiflpemkjaa.Tr
