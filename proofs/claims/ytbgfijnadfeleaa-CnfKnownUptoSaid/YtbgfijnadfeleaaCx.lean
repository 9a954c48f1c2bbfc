/- cnf.Resolve: what it answers, at any clauses and number. Conditions: the memory, at most a million literals in each. -/
import Derived.Test.YtbgfijnadfeleaaCu
import Derived.Test.YtbgfijnadfeleaaCw
import Derived.Test.YtbgfijnadfeleaaCh
namespace Go.Proofs.Ytbgfijnadfeleaa.Cx
open Go.RowKit Go.Proofs.Ytbgfijnadfeleaa.Mem Go.Proofs.Ytbgfijnadfeleaa.Sl Go.Proofs.Ytbgfijnadfeleaa.Cl Go.Proofs.Ytbgfijnadfeleaa.App Go.Proofs.Ytbgfijnadfeleaa.Cm Go.Shelf
open Go.Proofs.Ytbgfijnadfeleaa.Cp (ltL normL bothL InR)
open Go.Proofs.Ytbgfijnadfeleaa.Ch (hasB contains_any has_any)
open Go.Proofs.Ytbgfijnadfeleaa.Cw (noL without_any noL_len)
open Go.Proofs.Ytbgfijnadfeleaa.Cs (Normal_any)
open Go.Proofs.Ytbgfijnadfeleaa.Ca (wpApp)
open Go.Proofs.Ytbgfijnadfeleaa.FnL (Pred enc_at below_then)
set_option linter.unusedVariables false

def resOk (a b : List Int) (v : Int) : Bool := decide (1 ≤ v) && (decide (v ≤ 2147483647) && (hasB a v && hasB b (-v)))
def resL (a b : List Int) (v : Int) : List Int := noL a v ++ noL b (-v)
def resN (a b : List Int) (v : Int) : List Int := if resOk a b v then normL (resL a b v) else []
def resB (a b : List Int) (v : Int) : Bool := resOk a b v && bothL (resL a b v)
def resE (a b : List Int) (v : Int) : Int := if resOk a b v then 0 else 2
theorem res_no {a b : List Int} {v : Int} (h : resOk a b v = false) : resN a b v = [] ∧ resB a b v = false ∧ resE a b v = 2 := by
  unfold resN resB resE; rw [h]; exact ⟨rfl, rfl, rfl⟩
theorem res_yes {a b : List Int} {v : Int} (h : resOk a b v = true) : resN a b v = normL (resL a b v) ∧ resB a b v = bothL (resL a b v) ∧ resE a b v = 0 := by
  unfold resN resB resE; rw [h]; exact ⟨rfl, rfl, rfl⟩
theorem noL_in {l : List Int} (h : InR l) (x : Int) : InR (noL l x) := fun y hy => h y (List.mem_filter.1 hy).1
theorem resL_in {a b : List Int} (ha : InR a) (hb : InR b) (v : Int) : InR (resL a b v) := fun y hy => by
  rcases List.mem_append.1 hy with h | h
  · exact noL_in ha v y h
  · exact noL_in hb (-v) y h
theorem Own.nil_c {w : World} {base n c : Nat} {t : TypeId} {A : Option Addr} {xs : List Value} (h : Own w base t A n c xs) (hA : A = none) : c = 0 := by
  obtain ⟨_, ⟨_, h2, _⟩ | ⟨g, h2, _⟩⟩ := h
  · exact h2
  · rw [hA] at h2; cases h2
theorem cl_own {w : World} {base n c : Nat} {t : TypeId} {A : Option Addr} {l : List Int} (h : Own w base t A n c (LI l)) (hl : InR l) (hn : n ≤ 1000000) : ClOk w.heap.size w ⟨A, n, c, l⟩ :=
  ⟨by have := h.1; simpa [LI] using this, by show n ≤ _; omega, h.rd, hl⟩
theorem cl_fro {w : World} {base n c : Nat} {A : Option Addr} {l : List Int} (h : Fro w base A n (LI l)) (hl : InR l) (hn : n ≤ 1000000) : ClOk w.heap.size w ⟨A, n, c, l⟩ :=
  ⟨by have := h.1; simpa [LI] using this, by show n ≤ _; omega, h.rd, hl⟩
theorem Resolve_any {B : Nat} {w : World} (x y : CV) (v : Int) (hx : ClOk B w x) (hy : ClOk B w y) (hB : B ≤ w.heap.size) (hxn : x.n ≤ 400000) (hyn : y.n ≤ 400000) :
    Calls Try.prog 17 #[x.v, y.v, .int .i64 v] w fun e w' => (∃ A, e = .returned (.tuple #[.slice A (resN x.l y.l v).length (resN x.l y.l v).length, .bool (resB x.l y.l v), .int .i64 (resE x.l y.l v)]) ∧ Fro w' w.heap.size A (resN x.l y.l v).length (LI (resN x.l y.l v))) ∧ Below w.heap.size w w' := by
  obtain ⟨a1, n1, c1, l1⟩ := x
  obtain ⟨a2, n2, c2, l2⟩ := y
  have HX := Lib.hid hx
  have HY := Lib.hid hy
  have HS := Lib.hid hB
  have HC1 := Lib.hid (contains_any a1 n1 c1 l1 v hx.ln hx.mx (hx.rd.rd hB))
  have HC2 := Lib.hid (contains_any a2 n2 c2 l2 (-v) hy.ln hy.mx (hy.rd.rd hB))
  have HE := Lib.hid (show resOk l1 l2 v = (decide (1 ≤ v) && (decide (v ≤ 2147483647) && (hasB l1 v && hasB l2 (-v)))) from rfl)
  have hxn : n1 ≤ 400000 := hxn
  have hyn : n2 ≤ 400000 := hyn
  show Calls _ _ #[.slice a1 n1 c1, .slice a2 n2 c2, .int .i64 v] _ _
  dsimp only
  have HFN := Lib.hid (show resOk l1 l2 v = false → ∀ W : World, Fro W w.heap.size none (resN l1 l2 v).length (LI (resN l1 l2 v)) from fun h W => by rw [(res_no h).1]; exact ⟨rfl, .inl ⟨rfl, rfl⟩⟩)
  clear hx hy hB
  by_cases p1 : v < 1
  · have HN := Lib.hid (show resOk l1 l2 v = false by rw [HE.out, decide_eq_false (show ¬ 1 ≤ v by omega)]; rfl)
    have HNO := Lib.hid (res_no HN.out)
    go_enter Try.func17, Try.ntmps17
    go_wp2
    go_ret3
    exact ⟨⟨none, by rw [HNO.out.1, HNO.out.2.1, HNO.out.2.2]; rfl, HFN.out HN.out _⟩, Below.refl _ _⟩
  · by_cases p2 : 2147483647 < v
    · have HN := Lib.hid (show resOk l1 l2 v = false by rw [HE.out, decide_eq_false (show ¬ v ≤ 2147483647 by omega), Bool.false_and, Bool.and_false])
      have HNO := Lib.hid (res_no HN.out)
      go_enter Try.func17, Try.ntmps17
      go_wp2
      go_ret3
      exact ⟨⟨none, by rw [HNO.out.1, HNO.out.2.1, HNO.out.2.2]; rfl, HFN.out HN.out _⟩, Below.refl _ _⟩
    · have e1 : IntKind.i32.wrap v = v := IntWalk.i32_in _ (by omega)
      have e2 : IntKind.i32.wrap (-v) = -v := IntWalk.i32_in _ (by omega)
      rw [decide_eq_true (show 1 ≤ v by omega), decide_eq_true (show v ≤ 2147483647 by omega), Bool.true_and, Bool.true_and] at HE
      cases h1 : hasB l1 v with
      | false =>
        have HN := Lib.hid (show resOk l1 l2 v = false by rw [HE.out, h1]; rfl)
        have HNO := Lib.hid (res_no HN.out)
        rw [h1] at HC1
        clear h1
        go_enter Try.func17, Try.ntmps17
        go_wp2_with fail
        refine HC1.out.mono ?_
        rintro e w1 ⟨rfl, rfl⟩
        go_wp2
        go_ret3
        exact ⟨⟨none, by rw [HNO.out.1, HNO.out.2.1, HNO.out.2.2]; rfl, HFN.out HN.out _⟩, Below.refl _ _⟩
      | true =>
        rw [h1, Bool.true_and] at HE
        rw [h1] at HC1
        clear h1
        cases h2 : hasB l2 (-v) with
        | false =>
          have HN := Lib.hid (show resOk l1 l2 v = false by rw [HE.out, h2])
          have HNO := Lib.hid (res_no HN.out)
          rw [h2] at HC2
          clear h2
          go_enter Try.func17, Try.ntmps17
          go_wp2_with fail
          refine HC1.out.mono ?_
          rintro e w1 ⟨rfl, rfl⟩
          go_wp2_with fail
          refine HC2.out.mono ?_
          rintro e w1 ⟨rfl, rfl⟩
          go_wp2
          go_ret3
          exact ⟨⟨none, by rw [HNO.out.1, HNO.out.2.1, HNO.out.2.2]; rfl, HFN.out HN.out _⟩, Below.refl _ _⟩
        | true =>
          have HN := Lib.hid (show resOk l1 l2 v = true by rw [HE.out, h2])
          have HNO := Lib.hid (res_yes HN.out)
          rw [h2] at HC2
          clear h2 HFN HE
          have HW1 := Lib.hid (without_any (w := w) a1 n1 c1 l1 v HX.out.ln (HX.out.rd.rd HS.out) (by omega))
          have HL1 := Lib.hid (show (noL l1 v).length ≤ 400000 from Nat.le_trans (noL_len l1 v) (by have h : n1 = l1.length := HX.out.ln; omega))
          have HL2 := Lib.hid (show (noL l2 (-v)).length ≤ 400000 from Nat.le_trans (noL_len l2 (-v)) (by have h : n2 = l2.length := HY.out.ln; omega))
          have HLR := Lib.hid (show (noL l1 v).length + (noL l2 (-v)).length = (resL l1 l2 v).length by unfold resL; rw [List.length_append])
          have HIN := Lib.hid (resL_in (show InR l1 from HX.out.lb) (show InR l2 from HY.out.lb) v)
          go_enter Try.func17, Try.ntmps17
          go_wp2_with fail
          refine HC1.out.mono ?_
          rintro e w1 ⟨rfl, rfl⟩
          go_wp2_with fail
          refine HC2.out.mono ?_
          rintro e w1 ⟨rfl, rfl⟩
          go_wp2_with fail
          refine HW1.out.mono ?_
          rintro e w1 ⟨A1, d1, rfl, hO1, hb1⟩
          have HO1 := Lib.hid hO1
          have HB1 := Lib.hid hb1
          have HW2 := Lib.hid (without_any (w := w1) a2 n2 c2 l2 (-v) HY.out.ln ((HY.out.below (HB1.out.mono HS.out)).rd.rd (Nat.le_trans HS.out HB1.out.size)) (by omega))
          clear hO1 hb1 HW1 HC1 HC2
          go_wp2_with fail
          refine HW2.out.mono ?_
          rintro e w2 ⟨A2, d2, rfl, hO2, hb2⟩
          have HO2 := Lib.hid hO2
          have HO1' := Lib.hid (HO1.out.below hb2)
          have HB2 := Lib.hid (below_then HB1.out hb2 HB1.out.size)
          clear hO2 hb2 HW2 HO1
          go_wp2_with (at_builtin; refine wpApp rfl _ _ rfl w.heap.size A1 (noL l1 v).length d1 (noL l1 v) rfl HO1'.out A2 (noL l2 (-v)).length d2 (noL l2 (-v)) rfl rfl HO2.out.rd (fun h => Own.nil_c HO2.out h) (by have := HL1.out; have := HL2.out; omega) HB2.out.size _ rfl ?_; intro A3 d3 w3 hO3 hb3 hg3; have HO3 := Lib.hid hO3; have HB3 := Lib.hid (HB2.out.trans hb3); clear hO3 hb3 hg3)
          have HNM := Lib.hid (Normal_any (w := w3) (B := w3.heap.size) ⟨A3, (noL l1 v).length + (noL l2 (-v)).length, d3, resL l1 l2 v⟩ (cl_own HO3.out HIN.out (by have := HL1.out; have := HL2.out; omega)) (Nat.le_refl _) (by show (noL l1 v).length + (noL l2 (-v)).length ≤ _; have := HL1.out; have := HL2.out; omega))
          go_wp2_with fail
          refine HNM.out.mono ?_
          rintro e w4 ⟨⟨A4, rfl, hF⟩, hb4⟩
          have HF := Lib.hid hF
          have HB4 := Lib.hid (below_then HB3.out hb4 HB3.out.size)
          clear hF hb4
          go_wp2
          go_ret3
          exact ⟨⟨A4, by rw [HNO.out.1, HNO.out.2.1, HNO.out.2.2]; rfl, by rw [HNO.out.1]; exact HF.out.low HB3.out.size⟩, HB4.out⟩
end Go.Proofs.Ytbgfijnadfeleaa.Cx
