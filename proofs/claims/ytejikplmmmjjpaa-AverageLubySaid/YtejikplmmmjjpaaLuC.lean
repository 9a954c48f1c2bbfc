/- rows: ranging over the row. Conditions: the bound. -/
import Derived.Test.YtejikplmmmjjpaaLuB
namespace Go.Proofs.Ytejikplmmmjjpaa.Avg
open Go.RowKit Go.Proofs.Ytejikplmmmjjpaa.Mem Go.Proofs.Ytejikplmmmjjpaa.AvgM
set_option linter.unusedVariables false
attribute [local go_sem] Oper.semAt_some

theorem equal_nil (d : Nat) (W : World) : (Op.equalIn (d + 1) 65 (.func (.func 35) #[] #[]) .nilFunc).run Try.prog W = .ok false W := by
  simp [Op.equalIn, run_underlying Try.underlying65]
theorem row_nil (W : World) : (binOp .eql 65 (.func (.func 35) #[] #[]) .nilFunc).run Try.prog W = .ok (.bool false) W := by
  simp only [binOp]
  simp [Op.equal, Op.maxDepth, equal_nil 9999 W]
theorem results_cell_one {P : Program} {fn : Func} {p : Tmp} {ty : TypeId} (h : fn.results = #[.cell p ty]) (tmps : Array Value) (w : World) (a : Addr) (v : Value) (hp : tmps.getD p undef = .pointer (some a)) (hl : (loadVar ty a).run P w = .ok v w) :
    (results fn tmps).run P w = .ok v w := by
  have hp' : tmps[p]?.getD undef = .pointer (some a) := by simpa using hp
  simp [results, h, hp', asAddr, hl]
/-- Between two rounds: k numbers were told. -/
structure RInv (B n : Nat) (w : World) (k : Nat) (W : World) : Prop where
  bn : Blk W B 2 #[.int .i64 n]
  br : Blk W (B + 1) 4 #[.bool false]
  bk : Blk W (B + 2) 2 #[.int .i64 k]
  bs : Blk W (B + 3) 2 #[.int .i64 (lubS k : Int)]
  md : Mod (fun i => B ≤ i) w W
theorem RInv.mod {B n k : Nat} {w W W' : World} (h : RInv B n w k W) (hm : Mod (fun i => B + 4 ≤ i) W W') : RInv B n w k W' :=
  ⟨h.bn.mod hm (by omega), h.br.mod hm (by omega), h.bk.mod hm (by omega), h.bs.mod hm (by omega), h.md.then_ (hm.mono fun i _ hi => by omega)⟩
theorem RInv.ownFrom {B n : Nat} {w : World} : OwnFrom (B + 4) (fun (k : Nat) W => k ≤ n ∧ RInv B n w k W) :=
  fun s W W' row hs hg hr => ⟨hs.1, hs.2.mod ((Mod.grown hg).mono (fun i _ e => (hr i e.symm).1))⟩
theorem RInv.ownFromX {B n : Nat} {w : World} : OwnFrom (B + 4) (fun (c : Code) W => c = .exit 0 ∧ RInv B n w (n + 1) W) :=
  fun s W W' row hs hg hr => ⟨hs.1, hs.2.mod ((Mod.grown hg).mono (fun i _ e => (hr i e.symm).1))⟩
theorem keeps_mod {B : Nat} {W W' : World} (h : Mod (fun i => i < B) W W') : KeepsFrom B W W' :=
  ⟨h.size, fun k o hB hk _ => (h.block k (Array.getElem?_eq_some_iff.1 hk).1 (by omega)).trans hk⟩
theorem ent {P : Program} {f : FuncId} {fn : Func} {c : Code} (hf : P.funcs[f]? = some fn) (hname : (fn.name == "runtime.NumGoroutine") = false) (hb : fn.body = some c) (args : Array Value) (w : World) :
    (callFunc f args).run P w = .ok (.enter f args) w := by
  have h1 : fn.name ≠ "runtime.NumGoroutine" := by simpa using hname
  simp [callFunc, hf, h1, hb]
abbrev rwF : Value := .func (.func 35) #[] #[]
set_option maxRecDepth 100000 in
set_option maxHeartbeats 2000000 in
theorem rows_any (n : Nat) (hn : n ≤ 999) (w : World) : Calls Try.prog 20 #[.int .i64 n] w fun e w' => e = .returned (.bool true) ∧ Below w.heap.size w w' := by
  refine (callsIn_wide (n := 6)).1 ?_
  refine callsIn_of_wp_marks Try.func20 rfl trivial ?_ rfl
  refine wpIn_wide.2 ?_
  simp only [Try.ntmps20, List.size_toArray, List.length_cons, List.length_nil, Nat.reduceAdd, Nat.reduceSub, Array.replicate_succ, Array.replicate_zero, List.push_toArray, List.append_toArray, List.nil_append, List.cons_append]
  go_wp2_with fail
  refine (row_any _).mono ?_
  rintro e w1 ⟨rfl, rfl⟩
  have hrn := row_nil
  go_wp2_with fail
  obtain ⟨W0, hW0⟩ : ∃ W0, W0 = ((((w.alloc (.cells #[.int .i64 n] 2)).alloc (.cells #[.bool false] 4)).alloc (.cells #[.int .i64 0] 2)).alloc (.cells #[.int .i64 0] 2)) := ⟨_, rfl⟩
  have hs0 : W0.heap.size = w.heap.size + 4 := by rw [hW0]; simp
  have HI0 := Lib.hid (show RInv w.heap.size n w 0 W0 from by
    rw [hW0]
    refine ⟨(((Blk.new w _ _).alloc _).alloc _).alloc _, ?_, ?_, ?_, (((((Mod.refl _ w).alloc _).alloc _).alloc _).alloc _)⟩
    · have := ((Blk.new (w.alloc (.cells #[.int .i64 n] 2)) 4 #[.bool false]).alloc (.cells #[.int .i64 0] 2)).alloc (.cells #[.int .i64 0] 2)
      simpa using this
    · have := (Blk.new ((w.alloc (.cells #[.int .i64 n] 2)).alloc (.cells #[.bool false] 4)) 2 #[.int .i64 0]).alloc (.cells #[.int .i64 0] 2)
      simpa using this
    · have := Blk.new (((w.alloc (.cells #[.int .i64 n] 2)).alloc (.cells #[.bool false] 4)).alloc (.cells #[.int .i64 0] 2)) 2 #[.int .i64 0]
      simpa [lubS] using this)
  rw [← hW0]
  clear hW0 hrn
  refine (wpIn_wide (n := 6)).1 ?_
  refine Rg.wpIn_rangeTill rfl (by omega) (gf := 35) (lb := #[]) rfl trivial (ent Try.func35 (by kernel_rfl) rfl) (row_till 5 n (by omega) (by omega)) (fun _ => rfl)
    (fun k W => k ≤ n ∧ RInv w.heap.size n w k W) (fun c W => c = .exit 0 ∧ RInv w.heap.size n w (n + 1) W) (by rw [hs0]; exact RInv.ownFrom) (by rw [hs0]; exact RInv.ownFromX) (fun k W h => h.1) ⟨Nat.zero_le _, HI0.out⟩
    (fun k a' => a' = { tmps := #[.int .i64 n, .pointer (some ⟨w.heap.size, 0, none⟩), .pointer (some ⟨w.heap.size + 1, 0, none⟩), rwF, .pointer (some ⟨w.heap.size + 1 + 1, 0, none⟩), .pointer (some ⟨w.heap.size + 1 + 1 + 1, 0, none⟩), .int .i64 (lub (k + 1) : Int), undef, undef, rwF, rwF, .bool false, rwF, .int .i64 (lub (k + 1) : Int), undef, undef, undef, undef, undef, undef, undef, undef, undef, undef, undef, undef, undef, undef, undef, undef, undef, undef, undef, undef, undef, undef, undef, undef, undef, undef, undef, undef, undef, undef, undef, undef, undef, undef, undef, undef, undef], defers := [] })
    ?assign ?body ?stop
  case assign =>
    rintro l k W K hi hK
    have HK := Lib.hid hK
    clear hK
    gi_wp2
    exact HK.out _ rfl
  case body =>
    rintro l k a' W hl hr ⟨hkn, hi⟩ rfl
    rw [hs0] at hl ⊢
    have HI := Lib.hid hi
    clear hi hr
    have hv := lub_le (i := k + 1) (by omega) (by omega)
    have hsb := lubS_le k (by omega)
    have hkk : k * k ≤ 999 * 999 := Nat.mul_le_mul (by omega) (by omega)
    have HSE := Lib.hid (show lubS (k + 1) = lubS k + lub (k + 1) from rfl)
    have HRT := Lib.hid (row_test (k := k + 1) (by omega) (by omega))
    have HCM := Lib.hid (fun h W => comes_any (k + 1) (by omega) (by omega) h W)
    have HRL := Lib.hid (fun W => rluby_any (k + 1) W (by omega) (by omega))
    rw [show ((k + 1 : Nat) : Int) = (k : Int) + 1 by omega] at HRT HCM HRL
    have c0 : W.cell? ⟨w.heap.size + 1 + 1, 0, none⟩ = some (.int .i64 (k : Int)) := HI.out.bk.cell 0
    have f0 : W.frozen? ⟨w.heap.size + 1 + 1, 0, none⟩ = false := HI.out.bk.frozen 0
    have c1 : W.cell? ⟨w.heap.size + 1 + 1 + 1, 0, none⟩ = some (.int .i64 (lubS k : Int)) := HI.out.bs.cell 0
    have f1 : W.frozen? ⟨w.heap.size + 1 + 1 + 1, 0, none⟩ = false := HI.out.bs.frozen 0
    obtain ⟨V, hV⟩ : ∃ V : Int, V = (lub (k + 1) : Int) := ⟨_, rfl⟩
    obtain ⟨S, hS⟩ : ∃ S : Int, S = (lubS k : Int) := ⟨_, rfl⟩
    have HSV := Lib.hid (show ((lubS (k + 1) : Nat) : Int) = S + V by rw [HSE.out, hV, hS]; push_cast; rfl)
    have hV2 : 1 ≤ V ∧ V ≤ 1000 := by omega
    have hS2 : 0 ≤ S ∧ S ≤ 999 * 999 := by omega
    rw [← hV] at HRL ⊢
    rw [← hS] at c1
    rw [HSV.out] at HCM
    obtain ⟨W2, hW2⟩ : ∃ W2, W2 = (W.setCell ⟨w.heap.size + 1 + 1, 0, none⟩ (.int .i64 ((k : Int) + 1))).setCell ⟨w.heap.size + 1 + 1 + 1, 0, none⟩ (.int .i64 (S + V)) := ⟨_, rfl⟩
    have HI2 := Lib.hid (show RInv w.heap.size n w (k + 1) W2 from by
      rw [hW2]
      refine ⟨(HI.out.bn.far (by show w.heap.size ≠ w.heap.size + 1 + 1; omega) _).far (by show w.heap.size ≠ w.heap.size + 1 + 1 + 1; omega) _, (HI.out.br.far (by show w.heap.size + 1 ≠ w.heap.size + 1 + 1; omega) _).far (by show w.heap.size + 1 ≠ w.heap.size + 1 + 1 + 1; omega) _, ?_, ?_, ((HI.out.md.setCell (.inl (by show w.heap.size ≤ w.heap.size + 1 + 1; omega)) _).setCell (.inl (by show w.heap.size ≤ w.heap.size + 1 + 1 + 1; omega)) _)⟩
      · have := (HI.out.bk.set_ 0 (.int .i64 ((k : Int) + 1))).far (p := ⟨w.heap.size + 1 + 1 + 1, 0, none⟩) (by show w.heap.size + 2 ≠ w.heap.size + 1 + 1 + 1; omega) (.int .i64 (S + V))
        simpa using this
      · have := (HI.out.bs.far (p := ⟨w.heap.size + 1 + 1, 0, none⟩) (by show w.heap.size + 3 ≠ w.heap.size + 1 + 1; omega) (.int .i64 ((k : Int) + 1))).set_ 0 (.int .i64 (S + V))
        rw [HSV.out]
        simpa using this)
    have HKF := Lib.hid (show KeepsFrom (w.heap.size + 4) W W2 from by
      rw [hW2]
      exact keeps_mod (((Mod.refl _ W).setCell (.inl (by show w.heap.size + 1 + 1 < w.heap.size + 4; omega)) _).setCell (.inl (by show w.heap.size + 1 + 1 + 1 < w.heap.size + 4; omega)) _))
    clear hV hS HSE hv hsb hkk
    have wS : IntKind.i64.wrap (S + V) = S + V := IntWalk.i64_in _ (by omega)
    gi_wp2_with fail
    refine ⟨trivial, (CallsIn.inRound l (callsIn_wide.2 (HRL.out _))).mono ?_⟩
    rintro e w3 ⟨rfl, q, hq⟩
    rw [← hW2] at hq
    have HI3 := Lib.hid (show RInv w.heap.size n w (k + 1) w3 from by rw [hq]; exact HI2.out.mod ((Mod.refl _ W2).drewN q))
    have HK3 := Lib.hid (show KeepsFrom (w.heap.size + 4) W w3 from HKF.out.trans (by rw [hq]; exact keeps_mod ((Mod.refl _ W2).drewN q)))
    clear hq hW2 c0 f0 c1 f1 HI2 HKF HRL
    have c0 : w3.cell? ⟨w.heap.size + 1 + 1, 0, none⟩ = some (.int .i64 ((k : Int) + 1)) := by have := HI3.out.bk.cell 0; simpa using this
    have c1 : w3.cell? ⟨w.heap.size + 1 + 1 + 1, 0, none⟩ = some (.int .i64 (S + V)) := by have := HI3.out.bs.cell 0; rw [HSV.out] at this; simpa using this
    have c2 : w3.cell? ⟨w.heap.size, 0, none⟩ = some (.int .i64 (n : Int)) := HI3.out.bn.cell 0
    have FIN := Lib.hid (show ∀ W', KeepsFrom (w.heap.size + 4) w3 W' → RInv w.heap.size n w (k + 1) W' → KeepsFrom (w.heap.size + 4) W W' ∧ RInv w.heap.size n w (k + 1) W' from fun W' h1 h2 => ⟨HK3.out.trans h1, h2⟩)
    by_cases hc : k + 1 + 1 = 2 ^ (Nat.log2 (k + 1) + 1)
    · have ht : (bits .and .i64 ((k : Int) + 1) ((k : Int) + 1 + 1) == 0) = true := by rw [HRT.out]; exact decide_eq_true hc
      have HC := Lib.hid (HCM.out hc)
      clear hc HCM HRT
      gi_wp2_with fail
      refine ⟨trivial, (CallsIn.inRound l (callsIn_wide.2 (HC.out _))).mono ?_⟩
      rintro e w4 ⟨rfl, rfl⟩
      clear HC ht
      by_cases hlt : k < n
      · have hlz : ¬ (n : Int) < (k : Int) + 1 := by omega
        have hln : ¬ n < k + 1 := by omega
        gi_wp2
        exact ⟨HK3.out, hlt, HI3.out⟩
      · obtain rfl : k = n := by omega
        have hlz : (k : Int) < (k : Int) + 1 := by omega
        gi_wp2
        exact ⟨HK3.out, rfl, HI3.out⟩
    · have ht : (bits .and .i64 ((k : Int) + 1) ((k : Int) + 1 + 1) == 0) = false := by rw [HRT.out]; exact decide_eq_false hc
      clear hc HCM HRT
      by_cases hlt : k < n
      · have hlz : ¬ (n : Int) < (k : Int) + 1 := by omega
        have hln : ¬ n < k + 1 := by omega
        gi_wp2_with fail
        refine ⟨trivial, ?_⟩
        gi_wp2
        exact ⟨HK3.out, hlt, HI3.out⟩
      · obtain rfl : k = n := by omega
        have hlz : (k : Int) < (k : Int) + 1 := by omega
        gi_wp2_with fail
        refine ⟨trivial, ?_⟩
        gi_wp2
        exact ⟨HK3.out, rfl, HI3.out⟩
  case stop =>
    rintro D c W hD ⟨rfl, hi⟩ hK
    have c0 : W.cell? ⟨w.heap.size + 1 + 1, 0, none⟩ = some (.int .i64 ((n : Int) + 1)) := by have := hi.bk.cell 0; simpa using this
    have c1 : W.cell? ⟨w.heap.size, 0, none⟩ = some (.int .i64 (n : Int)) := hi.bn.cell 0
    have c2 : W.cell? ⟨w.heap.size + 1, 0, none⟩ = some (.bool false) := hi.br.cell 0
    have f2 : W.frozen? ⟨w.heap.size + 1, 0, none⟩ = false := hi.br.frozen 0
    have HI := Lib.hid hi
    have HK := Lib.hid hK
    clear hi hK
    refine wpIn_wide.2 ?_
    go_wp2
    obtain ⟨W', hW'⟩ : ∃ W', W' = W.setCell ⟨w.heap.size + 1, 0, none⟩ (.bool true) := ⟨_, rfl⟩
    rw [← hW']
    have hne : D ≠ w.heap.size + 1 := by omega
    have hK2 : W'.heap[D]? = some (.deferred (some [])) := by rw [hW']; exact (Below.heap_setCell W ⟨w.heap.size + 1, 0, none⟩ _ D hne).trans HK.out
    have hB2 : Blk W' (w.heap.size + 1) 4 #[.bool true] := by rw [hW']; exact HI.out.br.set_ 0 (.bool true)
    have hM2 : Mod (fun i => w.heap.size ≤ i) w W' := by rw [hW']; exact HI.out.md.setCell (.inl (by show w.heap.size ≤ w.heap.size + 1; omega)) _
    have hM3 : Mod (fun i => i = D) W' (W'.putObj D (.deferred none)) := (Mod.grown (grownBy_putObj' W' D _)).mono (fun i _ e => by cases e; rfl)
    have hB3 := hB2.mod hM3 (fun e => hne e.symm)
    have hc3 : (W'.putObj D (.deferred none)).cell? ⟨w.heap.size + 1, 0, none⟩ = some (.bool true) := hB3.cell 0
    have hM4 : Mod (fun i => w.heap.size ≤ i) w (W'.putObj D (.deferred none)) := hM2.then_ (hM3.mono (fun i _ e => by omega))
    refine ⟨by simp, .inl ⟨_, _, rfl, run_takeDeferred hK2, _, results_cell_one rfl _ _ ⟨w.heap.size + 1, 0, none⟩ (.bool true) rfl ?_, rfl, hM4.below (fun i _ hi => hi) (Nat.le_refl _)⟩⟩
    have ha := Try.isAgg4
    unfold loadVar
    clear hW'
    generalize W'.putObj D (.deferred none) = W9 at hc3 ⊢
    go_simp
end Go.Proofs.Ytejikplmmmjjpaa.Avg
