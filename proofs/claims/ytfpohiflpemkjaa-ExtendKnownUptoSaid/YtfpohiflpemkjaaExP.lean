/- The walk of Extend: its iterator backward; the whole. -/
import Derived.Test.YtfpohiflpemkjaaExC
import Derived.RangeFuncNested
import Derived.RangeFuncBound
import Derived.RangeFuncCalls
import Derived.RangeFuncLeaves
import Derived.Shelf.RegionOpen
import Derived.OwnWalkIn
import Derived.TacticsInMore
import Derived.LoopNIn
import Derived.LoopIn
namespace Go.Proofs.Ytfpohiflpemkjaa.Ex
open Go.RowKit Go.Proofs.Ytfpohiflpemkjaa.Mem Go.Proofs.Ytfpohiflpemkjaa.Sl Go.Proofs.Ytfpohiflpemkjaa.Cl Go.Proofs.Ytfpohiflpemkjaa.App Go.Shelf
open Go.Proofs.Ytfpohiflpemkjaa.FnL (Pred enc_at below_then)
set_option linter.unusedVariables false
attribute [local go_sem] Oper.semAt_some

theorem backward_any (w : World) (sa : Option Addr) (sn sc : Nat) :
    Calls Try.prog 36 #[.slice sa sn sc] w fun e w' => e = .returned (.func (.func 56) #[] #[.pointer (some ⟨w.heap.size, 0, none⟩)]) ∧ w' = w.alloc (.cells #[.slice sa sn sc] 24) := by
  go_enter Try.func36, Try.ntmps36
  go_wp2
  go_ret
  exact ⟨rfl, rfl⟩
/-- A witness of the stack. -/
abbrev In (st : List WV) := { x : WV // x ∈ st }
def wv (x : WV) : Value := .agg #[x.l.v, x.c.v]
def KpG (g n1 : Nat) (W W' : World) : Prop := Mod (fun i => i = g ∨ n1 ≤ i) W W'
theorem back_stops {B : Nat} (sa : Option Addr) (sn sc : Nat) (st : List WV) (hm : sn ≤ 9223372036854775807) (g n1 bn : Nat) (w0 : World) (hst : WtOk B w0 sa sn st) (hB : B ≤ g) (hB1 : B ≤ n1) (hn1 : n1 = w0.heap.size) (hbn : bn < n1) (hbg : bn ≠ g) (hbB : B ≤ w0.heap.size)
    (hc : w0.cell? ⟨bn, 0, none⟩ = some (.slice sa sn sc)) (n : Nat) (hn : 1 ≤ n) :
    SeqStopsK Fence.wide n Try.prog 56 #[.pointer (some ⟨bn, 0, none⟩)] (fun x : In st => #[wv x.1]) (KpG g n1) (fun xs => xs.map Subtype.val = st.reverse) (fun _ => True) st.length w0 := fun l J Jx W hW _ _ hY h0 => by
  have HST := Lib.hid hst
  have HY := Lib.hid hY
  have HW := Lib.hid hW
  have HL := Lib.hid hst.ln
  have H1 := Lib.hid (show B ≤ g ∧ B ≤ n1 ∧ n1 = w0.heap.size ∧ bn < n1 ∧ bn ≠ g ∧ B ≤ w0.heap.size from ⟨hB, hB1, hn1, hbn, hbg, hbB⟩)
  have hc0 : W.cell? ⟨bn, 0, none⟩ = some (.slice sa sn sc) := (hW.cell (p := ⟨bn, 0, none⟩) (by show bn < _; omega)).trans hc
  have HC0 := Lib.hid hc0
  have HJ0 := Lib.hid h0
  clear hst hY hW hB hB1 hn1 hbn hbg hbB hc h0
  refine callsIn_of_wp Try.func56 rfl trivial ?_ rfl
  simp only [Try.ntmps56, List.size_toArray, List.length_cons, List.length_nil, Nat.reduceAdd, Nat.reduceSub, Array.replicate_succ, Array.replicate_zero, List.push_toArray, List.append_toArray, List.nil_append, List.cons_append]
  have e1 : IntKind.i64.wrap ((sn : Int) - 1) = (sn : Int) - 1 := IntWalk.i64_in _ (by omega)
  gi_wp2
  clear e1
  gi_loopw [3] (fun p wr => ∃ (k : Nat) (pre : List (In st)), k ≤ sn ∧ p = .int .i64 ((k : Int) - 1) ∧ pre.map Subtype.val = (st.drop k).reverse ∧ J pre wr ∧ KpG g n1 W wr)
    (fun p _ => (intOf p + 1).toNat)
  case atStart => exact ⟨sn, [], Nat.le_refl _, rfl, by rw [List.drop_of_length_le (by rw [← HL.out]; omega)]; rfl, HJ0.out, Mod.refl _ _⟩
  case round =>
    obtain ⟨k, pre, hk, rfl, hp, hJ, hK⟩ := hrel
    have HP := Lib.hid hp
    have HJ := Lib.hid hJ
    have HK := Lib.hid hK
    have hcr : wr.cell? ⟨bn, 0, none⟩ = some (.slice sa sn sc) := by
      have h1 := H1.out
      exact (World.cell?_of_block (hK.block bn (by have := HW.out.size; omega) (by omega))).trans HC0.out
    clear hp hJ hK
    rcases k with _ | k
    · rw [show (((0 : Nat) : Int) - 1) = -1 from rfl]
      gi_wp2
      go_end0
      exact ⟨⟨_, rfl⟩, .inl ⟨pre, by have := HP.out; simpa using this, HJ.out⟩⟩
    · rw [show (((k + 1 : Nat) : Int) - 1) = (k : Int) by omega]
      have hkl : k < st.length := by rw [← HL.out]; omega
      have HBW := Lib.hid (show Below B w0 wr from (HW.out.mono H1.out.2.2.2.2.2).trans (HK.out.below (fun i hi h => by have := H1.out; omega) (by have := HW.out.size; have := H1.out; omega)))
      obtain ⟨b, off, ha, hbl, hc1, hc2⟩ := (HST.out.below HBW.out).at_ hkl
      subst ha
      have HM := Lib.hid (show st[k]'hkl ∈ st from List.getElem_mem hkl)
      have HD := Lib.hid (show (st.drop k).reverse = (st.drop (k + 1)).reverse ++ [st[k]'hkl] by rw [List.drop_eq_getElem_cons hkl, List.reverse_cons])
      generalize st[k]'hkl = y at *
      obtain ⟨fn, tmps, assign, body, hy, hR⟩ := HY.out pre ⟨y, HM.out⟩ wr HJ.out (by
        have := congrArg List.length HP.out
        simp at this
        omega)
      unfold wv at hy
      dsimp only at hy
      generalize y.l.v = v1 at *
      generalize y.c.v = v2 at *
      clear hkl hbl
      have e1 : IntKind.i64.wrap ((k : Int) - 1) = (k : Int) - 1 := IntWalk.i64_in _ (by omega)
      gi_wp2
      refine hR.mono ?_
      rintro e W3 (⟨rfl, hJ3, hk3⟩ | ⟨rfl, hJx3⟩)
      · have HJ3 := Lib.hid hJ3
        have HK3 := Lib.hid hk3
        clear hJ3 hk3
        gi_wp2
        go_roundw
        case rel => exact ⟨k, pre ++ [⟨y, HM.out⟩], by omega, rfl, by rw [List.map_append, HP.out, HD.out]; rfl, HJ3.out, HK.out.then_ HK3.out⟩
        case measure => simp [intOf]
      · gi_wp2
        refine bodyPost_ret (results_none rfl _ _ _) rfl ?_
        exact ⟨⟨_, rfl⟩, .inr ⟨_, trivial, hJx3⟩⟩
def foldM {st : List WV} (m : List Bool) (pre : List (In st)) : List Bool := pre.foldl (fun m (x : In st) => stepB m x.1) m
theorem foldM_snoc {st : List WV} (m : List Bool) (pre : List (In st)) (x : In st) : foldM m (pre ++ [x]) = stepB (foldM m pre) x.1 := by unfold foldM; rw [List.foldl_append]; rfl
theorem foldM_all {st : List WV} (m : List Bool) (xs : List (In st)) (h : xs.map Subtype.val = st.reverse) : foldM m xs = extendB m st := by
  have h1 : foldM m xs = (xs.map Subtype.val).foldl stepB m := by unfold foldM; rw [List.foldl_map]
  rw [h1, h, List.foldl_reverse]
  rfl
/-- What holds between two rounds. -/
structure Inv (base g0 n1 ob : Nat) (A : Option Addr) (n c' : Nat) (W0 : World) (M : List Bool) (W : World) : Prop where
  own : OwnM W base A n c' M
  ob : Blk W ob 23 #[.slice A n c']
  md : Mod (fun i => i = g0 ∨ n1 ≤ i) W0 W
theorem Inv.mod {base g0 n1 ob : Nat} {A : Option Addr} {n c' : Nat} {W0 W W' : World} {M : List Bool} (h : Inv base g0 n1 ob A n c' W0 M W) (hm : Mod (fun i => n1 ≤ i) W W') (hA : ∀ i, A = some ⟨i, 0, none⟩ → i < n1) (hob : ob < n1) : Inv base g0 n1 ob A n c' W0 M W' :=
  ⟨h.own.mod hm (fun i _ hi hn => by have := hA i hi; omega), h.ob.mod hm (by omega), h.md.then_ (hm.mono (fun i _ hi => .inr hi))⟩
theorem Inv.ownFrom {α : Type} {base g0 n1 ob : Nat} {A : Option Addr} {n c' : Nat} {W0 : World} (F : List α → List Bool) (hA : ∀ i, A = some ⟨i, 0, none⟩ → i < n1) (hob : ob < n1) : OwnFrom n1 (fun (pre : List α) W => Inv base g0 n1 ob A n c' W0 (F pre) W) :=
  fun s W W' row hs hg hr => hs.mod ((Mod.grown hg).mono (fun i _ e => (hr i e.symm).1)) hA hob
theorem keeps_below {B : Nat} {W W' : World} (hb : Below W.heap.size W W') : KeepsFrom B W W' := ⟨hb.size, fun k o _ hk _ => (hb.block k (Array.getElem?_eq_some_iff.1 hk).1).trans hk⟩
theorem kpG_put {g n1 : Nat} (W : World) (l : Nat) (o o' : Obj) (hl : n1 ≤ l) (h : W.heap[l]? = some o) (ho : o.isCells = false) (hw : o.isWalk = false) : KpG g n1 W (W.putObj l o') :=
  (Mod.grown (grownBy_putObj' W l o')).mono (fun i _ e => by cases e; exact .inr hl)

set_option maxRecDepth 100000 in
set_option maxHeartbeats 4000000 in
theorem extend_any {B : Nat} {w : World} (hB : B ≤ w.heap.size) (a : Option Addr) (n c : Nat) (m : List Bool) (hm : MdOk B w a n m) (hnil : a = none → c = 0) (hmn : n ≤ 1000000) (sa : Option Addr) (sn sc : Nat) (st : List WV) (hst : WtOk B w sa sn st) :
    Calls Try.prog 11 #[.slice a n c, .slice sa sn sc] w fun e w' => Below w.heap.size w w' ∧
      ((okB n st = false ∧ e = .returned (.tuple #[.slice none 0 0, .int .i64 4])) ∨ (okB n st = true ∧ ∃ A c', e = .returned (.tuple #[.slice A n c', .int .i64 0]) ∧ OwnM w' w.heap.size A n c' (extendB m st))) := by
  have HM := Lib.hid hm
  have HX := Lib.hid hst
  have HL := Lib.hid hst.ln
  have HS := Lib.hid hB
  have HNIL := Lib.hid hnil
  have hmx := hst.mx
  clear hm hst hB hnil
  refine (callsIn_wide (n := 6)).1 ?_
  refine callsIn_of_wp_marks Try.func11 rfl trivial ?_ rfl
  refine wpIn_wide.2 ?_
  simp only [Try.ntmps11, List.size_toArray, List.length_cons, List.length_nil, Nat.reduceAdd, Nat.reduceSub, Array.replicate_succ, Array.replicate_zero, List.push_toArray, List.append_toArray, List.nil_append, List.cons_append]
  go_upto_region 1 with (fail)
  obtain ⟨W0, hW0⟩ : ∃ W, W = w.alloc (.cells #[.slice a n c] 23) := ⟨_, rfl⟩
  rw [← hW0]
  have HB0 := Lib.hid (show Below w.heap.size w W0 from hW0 ▸ ((Below.refl _ w).alloc (Nat.le_refl _) _))
  have hs : W0.heap.size = w.heap.size + 1 := by rw [hW0]; simp
  have K0 := Lib.hid (show W0.cell? ⟨w.heap.size, 0, none⟩ = some (.slice a n c) by rw [hW0]; simp)
  have HW0 := Lib.hid hs
  clear hs hW0
  go_wp2_with fail
  go_loopw [16] (fun i wr => ∃ k : Nat, k ≤ sn ∧ i = .int .i64 k ∧ (st.take k).all (okW n) = true ∧ Below W0.heap.size W0 wr) (fun i _ => sn - (intOf i).toNat)
  case atStart => exact ⟨0, Nat.zero_le _, rfl, rfl, Below.refl _ _⟩
  case round =>
    obtain ⟨k, hk, rfl, hf, hb⟩ := hrel
    have HF := Lib.hid hf
    have HB1 := Lib.hid hb
    have HB := Lib.hid (below_then HB0.out hb HB0.out.size)
    clear hf hb
    by_cases hlt : k < sn
    · have hkl : k < st.length := by rw [← HL.out]; exact hlt
      obtain ⟨b, off, ha, hbl, hc1, hc2⟩ := (HX.out.below (HB.out.mono HS.out)).at_ hkl
      subst ha
      have HT := Lib.hid (show (st.take (k + 1)).all (okW n) = okW n (st[k]'hkl) by rw [List.take_succ_eq_append_getElem hkl, List.all_append, HF.out]; simp)
      have HM2 := Lib.hid (show st[k]'hkl ∈ st from List.getElem_mem hkl)
      have HCL := Lib.hid ((HX.out.below (HB.out.mono HS.out)).all _ HM2.out)
      have HA := Lib.hid (show okW n (st[k]'hkl) = false → okB n st = false from fun h => by
        unfold okB; rw [List.all_eq_false]; exact ⟨_, HM2.out, by simpa using h⟩)
      have HO := Lib.hid (show okW n (st[k]'hkl) = (rightB n (st[k]'hkl).l.l && rightB n (st[k]'hkl).c.l) from rfl)
      generalize st[k]'hkl = y at *
      clear hkl hbl
      obtain ⟨⟨A1, n1, c1, l1⟩, ⟨A2, n2, c2, l2⟩⟩ := y
      dsimp only [CV.v] at hc1 hc2
      go_upto_region 5 with (fail)
      obtain ⟨W1, hW1⟩ : ∃ W1, W1 = wr.alloc (.cells #[.slice A1 n1 c1, .slice A2 n2 c2] 42) := ⟨_, rfl⟩
      rw [← hW1]
      have HBX := Lib.hid (show Below wr.heap.size wr W1 from hW1 ▸ ((Below.refl _ wr).alloc (Nat.le_refl _) _))
      have hs : W1.heap.size = wr.heap.size + 1 := by rw [hW1]; simp
      have k1 : W1.cell? ⟨wr.heap.size, 0, none⟩ = some (.slice A1 n1 c1) := by rw [hW1]; simp
      have K2 := Lib.hid (show W1.cell? ⟨wr.heap.size, 1, none⟩ = some (.slice A2 n2 c2) by rw [hW1]; simp)
      have HB1' := Lib.hid (below_then HB1.out HBX.out HB1.out.size)
      have HCF := Lib.hid fun (W2 : World) (hb2 : Below W0.heap.size W0 W2) (x : CV) (hx : ClOk W2.heap.size W2 x) => FnL.containsFunc_any (Value.int .i32) x.A x.c 32 #[.pointer (some ⟨w.heap.size, 0, none⟩)] (fun x => x == 0 || decide ((n : Int) < varI x)) x.l x.n hx.ln hx.mx W2 (hx.rd.rd (Nat.le_refl _))
        ⟨enters_of Try.func32 (by kernel_rfl) rfl, fun y hy W3 hb3 => none_any (B := 0) y (hx.lb y hy).1 (hx.lb y hy).2 w.heap.size a n c (by omega) ((hb3.cell (p := ⟨w.heap.size, 0, none⟩) (by have := hb2.size; have := HW0.out; show w.heap.size < _; omega)).trans ((hb2.cell (p := ⟨w.heap.size, 0, none⟩) (by have := HW0.out; show w.heap.size < _; omega)).trans K0.out))⟩
      have HSZ := Lib.hid (show B ≤ wr.heap.size ∧ wr.heap.size + 1 = W1.heap.size from ⟨Nat.le_trans HS.out HB.out.size, hs.symm⟩)
      have HC1 := Lib.hid (HCF.out W1 HB1'.out ⟨A1, n1, c1, l1⟩ ((HCL.out.1.below (HBX.out.mono HSZ.out.1)).up (by have := HSZ.out; omega)))
      have HC2 := Lib.hid fun (W2 : World) (hb2 : Below W1.heap.size W1 W2) => HCF.out W2 (below_then HB1'.out hb2 HB1'.out.size) ⟨A2, n2, c2, l2⟩ (((HCL.out.2.below (HBX.out.mono HSZ.out.1)).below (hb2.mono (by have := HSZ.out; omega))).up (by have := HSZ.out; have := hb2.size; omega))
      have HR1 := Lib.hid (show rightB n l1 = !(l1.any (fun x => x == 0 || decide ((n : Int) < varI x))) by unfold rightB; rw [List.all_eq_not_any_not]; simp)
      have HR2 := Lib.hid (show rightB n l2 = !(l2.any (fun x => x == 0 || decide ((n : Int) < varI x))) by unfold rightB; rw [List.all_eq_not_any_not]; simp)
      dsimp only at HC1 HC2 HO
      generalize (l1.any (fun x => x == 0 || decide ((n : Int) < varI x))) = r1 at *
      generalize (l2.any (fun x => x == 0 || decide ((n : Int) < varI x))) = r2 at *
      clear hs hW1 hc1 hc2
      have HBB := Lib.hid (below_then HB.out HBX.out HB.out.size)
      go_wp2_with fail
      refine HC1.out.mono ?_
      rintro e W2 ⟨rfl, hb2⟩
      have HC2' := Lib.hid (HC2.out W2 hb2)
      have HB2 := Lib.hid (below_then HBB.out hb2 HBB.out.size)
      have HB3 := Lib.hid (below_then HB1'.out hb2 HB1'.out.size)
      have k2 : W2.cell? ⟨wr.heap.size, 1, none⟩ = some (.slice A2 n2 c2) := (hb2.cell (p := ⟨wr.heap.size, 1, none⟩) (by have := HSZ.out; show wr.heap.size < _; omega)).trans K2.out
      clear hb2 k1
      cases h1 : r1 with
      | true =>
        have HE := Lib.hid (HA.out (by rw [HO.out, HR1.out, h1]; rfl))
        clear h1 k2
        go_wp2
        exact ⟨_, results_tmp2 rfl _ _ _, HB2.out, .inl ⟨HE.out, rfl⟩⟩
      | false =>
        rw [HR1.out, h1] at HO
        clear h1
        go_wp2_with fail
        refine HC2'.out.mono ?_
        rintro e W4 ⟨rfl, hb4⟩
        have HB4 := Lib.hid (below_then HB2.out hb4 HB2.out.size)
        have HB5 := Lib.hid (below_then HB3.out hb4 HB3.out.size)
        clear hb4 k2
        cases h1 : r2 with
        | true =>
          have HE := Lib.hid (HA.out (by rw [HO.out, HR2.out, h1]; rfl))
          clear h1
          go_wp2
          exact ⟨_, results_tmp2 rfl _ _ _, HB4.out, .inl ⟨HE.out, rfl⟩⟩
        | false =>
          have HE := Lib.hid (HT.out.trans (HO.out.trans (by rw [HR2.out, h1])))
          clear h1
          go_wp2
          go_roundw
          case rel => exact ⟨k + 1, by omega, by go_num, HE.out, HB5.out⟩
          case measure => simp [intOf]; omega
    · have HE := Lib.hid (show okB n st = true by
        have := HF.out
        rwa [List.take_of_length_le (by rw [← HL.out]; omega)] at this)
      have k0 : wr.cell? ⟨w.heap.size, 0, none⟩ = some (.slice a n c) := (HB1.out.cell (p := ⟨w.heap.size, 0, none⟩) (by have := HW0.out; show w.heap.size < _; omega)).trans K0.out
      clear HF
      have HC := Lib.hid (clone_any (B := B) (Nat.le_trans HS.out HB.out.size) a n c m (HM.out.below (HB.out.mono HS.out)) HNIL.out hmn)
      go_wp2_with fail
      refine HC.out.mono ?_
      rintro e w2 ⟨A, c', rfl, hO, hb2⟩
      have HO := Lib.hid hO
      have HB2 := Lib.hid (below_then HB.out hb2 HB.out.size)
      have HSZ := Lib.hid (show w.heap.size ≤ w2.heap.size from HB2.out.size)
      have HOG := Lib.hid (show ∀ i, A = some ⟨i, 0, none⟩ → wr.heap.size ≤ i ∧ i < w2.heap.size from fun i hi => by
        subst hi
        rcases hO.2 with ⟨h, _⟩ | ⟨g, h, h1, _, h3⟩
        · cases h
        · cases h; exact ⟨h1, h3.lt⟩)
      clear hO hb2 k0
      go_wp2_with fail
      refine (backward_any _ _ _ _).mono ?_
      rintro e w3 ⟨rfl, rfl⟩
      go_wp2_with fail
      obtain ⟨W5, hW5⟩ : ∃ W, W = (w2.alloc (.cells #[.slice A n c'] 23)).alloc (.cells #[.slice sa sn sc] 24) := ⟨_, rfl⟩
      rw [← hW5]
      have hs5 : W5.heap.size = w2.heap.size + 2 := by rw [hW5]; simp
      have HBW := Lib.hid (show Below w2.heap.size w2 W5 from hW5 ▸ ((Below.refl _ w2).alloc (Nat.le_refl _) _).alloc (by simp) _)
      have KO := Lib.hid (show Blk W5 w2.heap.size 23 #[.slice A n c'] from hW5 ▸ (Blk.new w2 _ _).alloc _)
      have KS := Lib.hid (show W5.cell? ⟨w2.heap.size + 1, 0, none⟩ = some (.slice sa sn sc) by rw [hW5]; simp)
      have HS5 := Lib.hid hs5
      have HB5 := Lib.hid (below_then HB2.out HBW.out HB2.out.size)
      have HO5 := Lib.hid ((HO.out.below HBW.out).low HB.out.size)
      clear hW5 hs5 HC
      obtain ⟨g0, hg0⟩ : ∃ g0, (∀ i, A = some ⟨i, 0, none⟩ → i = g0 ∧ i < w2.heap.size) ∧ w.heap.size ≤ g0 ∧ g0 ≠ w2.heap.size ∧ g0 ≠ w2.heap.size + 1 := by
        rcases hO2 : A with _ | ad
        · exact ⟨w2.heap.size + 2, fun i h => by (cases h), by have := HSZ.out; omega, by omega, by omega⟩
        · obtain ⟨hn5, ⟨h, _⟩ | ⟨g, h, hg1, hg2, hg3⟩⟩ := HO.out
          · rw [hO2] at h; cases h
          · have := HOG.out g h
            rw [hO2] at h
            cases h
            have := HB.out.size
            exact ⟨g, fun i hi => by cases hi; exact ⟨rfl, by omega⟩, by omega, by omega, by omega⟩
      have HG0 := Lib.hid hg0
      clear hg0
      have HWT := Lib.hid (HX.out.below (HB5.out.mono HS.out))
      have HSEQ := Lib.hid (back_stops (B := B) sa sn sc st hmx g0 W5.heap.size (w2.heap.size + 1) W5 HWT.out (by have := HS.out; have := HG0.out; omega) (by have := HS.out; have := HB5.out.size; omega) rfl (by have := HS5.out; omega) (by have := HG0.out; omega) (by have := HS.out; have := HB5.out.size; omega) KS.out 5 (by omega))
      have HA5 := Lib.hid (show ∀ i, A = some ⟨i, 0, none⟩ → i < W5.heap.size from fun i hi => by have := (HG0.out.1 i hi).2; have := HS5.out; omega)
      refine (wpIn_wide (n := 6)).1 ?_
      refine wpIn_rangeFunc_ownH rfl (by omega) (gf := 56) (lb := #[.pointer (some ⟨w2.heap.size + 1, 0, none⟩)]) rfl trivial (enters_of Try.func56 (by kernel_rfl) rfl)
        HSEQ.out (fun h k => Mod.then_ h k) (fun W l o o' h1 h2 h3 h4 => kpG_put W l o o' h1 h2 h3 h4) (Below.refl _ _) (fun _ => rfl)
        (fun pre W => Inv w.heap.size g0 W5.heap.size w2.heap.size A n c' W5 (foldM m pre) W)
        (fun _ _ _ => False)
        (Inv.ownFrom _ HA5.out (by have := HS5.out; omega))
        (fun _ _ _ _ _ hs _ _ => hs)
        ⟨HO5.out, KO.out, Mod.refl _ _⟩
        (fun x a' W => ∃ Bx, W5.heap.size ≤ Bx ∧ Blk W Bx 42 #[x.1.l.v, x.1.c.v] ∧ a' = { tmps := #[.slice a n c, .slice sa sn sc, .pointer (some ⟨w.heap.size, 0, none⟩), undef, u4, u5, .func (.func 32) #[] #[.pointer (some ⟨w.heap.size, 0, none⟩)], undef, u8, .pointer (some ⟨w2.heap.size, 0, none⟩), .pointer (some ⟨Bx, 0, none⟩), undef, undef, .func (.func 32) #[] #[.pointer (some ⟨w.heap.size, 0, none⟩)], .slice sa sn sc, .int .i64 sn, .int .i64 k, .bool false, u18, u19, u20, u21, u22, u23, u24, u25, u26, u27, u28, u29, u30, .slice a n c, .slice A n c', .slice sa sn sc, .func (.func 56) #[] #[.pointer (some ⟨w2.heap.size + 1, 0, none⟩)], wv x.1, undef, undef, undef, undef, undef, undef, undef, undef, undef, undef, undef, undef, undef, undef, undef, undef, undef, undef, undef, undef], defers := [] })
        (fun x a' _ X Y row hs hg hr => by
          obtain ⟨Bx, h1, h2, h3⟩ := hs
          exact ⟨Bx, h1, h2.mod (Mod.grown hg) (fun e => by
            obtain ⟨_, o, ho, hcl⟩ := hr Bx e.symm
            rw [show X.heap[Bx]? = some (.cells _ _ _) from h2] at ho
            cases ho
            cases hcl), h3⟩)
        ?assign ?body ?done ?stop
      case assign =>
        rintro l pre ⟨⟨⟨A1, n1, c1, l1⟩, ⟨A2, n2, c2, l2⟩⟩, hx⟩ W K hi hK
        dsimp only [wv, CV.v]
        have HI := Lib.hid hi
        have HK := Lib.hid hK
        clear hi hK
        gi_wp2
        have hsz := HI.out.md.size
        exact HK.out _ _ ((KeepsOthers.alloc _ _).from _) (Mod.alloc (Mod.refl _ _) _) (HI.out.mod (Mod.alloc (Mod.refl _ _) _) HA5.out (by have := HS5.out; omega)) ⟨W.heap.size, hsz, Blk.new W _ _, rfl⟩
      case body =>
        rintro l pre ⟨⟨⟨A1, n1, c1, l1⟩, ⟨A2, n2, c2, l2⟩⟩, hx⟩ a' W hl hr hi ⟨Bx, hBx, bX, rfl⟩ hlt2
        dsimp only [wv, CV.v] at bX ⊢
        have HI := Lib.hid hi
        have HF := Lib.hid (foldM_snoc m pre (⟨⟨⟨A1, n1, c1, l1⟩, ⟨A2, n2, c2, l2⟩⟩, hx⟩ : In st))
        have HML := Lib.hid (show (foldM m pre).length = n from by have := HI.out.own.1; simpa using this.symm)
        generalize foldM m pre = M at *
        have hsz := HI.out.md.size
        have HBB := Lib.hid (show Below B w W from (HB5.out.mono HS.out).trans (HI.out.md.below (fun i hi h => by have := HG0.out; have := HS.out; have := HB5.out.size; omega) (Nat.le_trans HS.out HB5.out.size)))
        have HSZW := Lib.hid (show B ≤ W.heap.size by have := HS.out; have := HB5.out.size; omega)
        have HCL := Lib.hid ((HX.out.below HBB.out).all _ hx)
        have HOK := Lib.hid (show okW n ⟨⟨A1, n1, c1, l1⟩, ⟨A2, n2, c2, l2⟩⟩ = true by have := HE.out; unfold okB at this; rw [List.all_eq_true] at this; exact this _ hx)
        have k0 : W.cell? ⟨Bx, 0, none⟩ = some (.slice A1 n1 c1) := bX.cell 0
        have k1 : W.cell? ⟨Bx, 1, none⟩ = some (.slice A2 n2 c2) := bX.cell 1
        have k2 : W.cell? ⟨w2.heap.size, 0, none⟩ = some (.slice A n c') := HI.out.ob.cell 0
        have HC := Lib.hid (Value_any (c := c') (Nat.le_refl _) (HI.out.own.md (by omega)) ⟨A2, n2, c2, l2⟩ (HCL.out.2.up HSZW.out))
        have HBX := Lib.hid bX
        clear hi hr bX
        gi_wp2_with fail
        refine ⟨trivial, (CallsIn.inRound l (callsIn_wide.2 HC.out)).mono ?_⟩
        rintro e w6 ⟨rfl, hb6⟩
        have HI6 := Lib.hid (HI.out.mod ((Mod.of_below hb6).mono (fun i _ hi => Nat.le_trans hsz hi)) HA5.out (by have := HS5.out; omega))
        have HKF6 := Lib.hid (show KeepsFrom W5.heap.size W w6 from keeps_below hb6)
        have HKP6 := Lib.hid (show KpG g0 W5.heap.size W w6 from Mod.none_ hb6 _)
        have HBX6 := Lib.hid (HBX.out.below hb6)
        have k3 : w6.cell? ⟨Bx, 0, none⟩ = some (.slice A1 n1 c1) := HBX6.out.cell 0
        clear hb6 k0 k1 k2 HC
        cases hv : valB M l2 with
        | true =>
          have HR := Lib.hid (show stepB M ⟨⟨A1, n1, c1, l1⟩, ⟨A2, n2, c2, l2⟩⟩ = M by unfold stepB; dsimp only; rw [hv]; rfl)
          clear hv
          gi_wp2
          refine ⟨HKF6.out, HKP6.out, ?_⟩
          show Inv w.heap.size g0 W5.heap.size w2.heap.size A n c' W5 (foldM m _) _
          rw [HF.out, HR.out]
          exact HI6.out
        | false =>
          have HR := Lib.hid (show stepB M ⟨⟨A1, n1, c1, l1⟩, ⟨A2, n2, c2, l2⟩⟩ = fixB M l1 by unfold stepB; dsimp only; rw [hv]; rfl)
          have HRT := Lib.hid (show rightB n l1 = true by have := HOK.out; unfold okW at this; rw [Bool.and_eq_true] at this; exact this.1)
          have HLL := Lib.hid (show n1 = l1.length from HCL.out.1.ln)
          have hyn : n1 ≤ 9223372036854775807 := HCL.out.1.mx
          clear hv
          gi_wp2_with fail
          gi_loopw [43] (fun i wr7 => ∃ j : Nat, j ≤ n1 ∧ i = .int .i64 j ∧ Inv w.heap.size g0 W5.heap.size w2.heap.size A n c' W5 (fixB M (l1.take j)) wr7 ∧ KeepsFrom W5.heap.size W wr7 ∧ KpG g0 W5.heap.size W wr7) (fun i _ => n1 - (intOf i).toNat)
          case atStart => exact ⟨0, Nat.zero_le _, rfl, HI6.out, HKF6.out, HKP6.out⟩
          case round =>
            clear HI6 HKF6 HKP6 HBX6 k3
            obtain ⟨j, hj, rfl, hi, hkf, hkp⟩ := hrel
            have HI := Lib.hid hi
            have HKF := Lib.hid hkf
            have HKP := Lib.hid hkp
            clear hi hkf hkp
            by_cases hlt3 : j < n1
            · have hjl : j < l1.length := by rw [← HLL.out]; exact hlt3
              have hszr := HI.out.md.size
              have HBB2 := Lib.hid (show Below B w wr from (HB5.out.mono HS.out).trans (HI.out.md.below (fun i hi h => by have := HG0.out; have := HS.out; have := HB5.out.size; omega) (Nat.le_trans HS.out HB5.out.size)))
              obtain ⟨b2, off2, ha2, hbl2, hc2⟩ := RdV.at_ (((HX.out.below HBB2.out).all _ hx).1.rd.rd (by have := HS.out; have := HB5.out.size; omega)) (enc_at (enc := Value.int .i32) hjl)
              dsimp only at ha2
              subst ha2
              have HM3 := Lib.hid (show l1[j]'hjl ∈ l1 from List.getElem_mem hjl)
              have HFX := Lib.hid (show fixB M (l1.take (j + 1)) = setLit (fixB M (l1.take j)) (l1[j]'hjl) by unfold fixB; rw [List.take_succ_eq_append_getElem hjl, List.foldl_append]; rfl)
              have hv := right_of HRT.out HM3.out
              have hlb := HCL.out.1.lb _ HM3.out
              have HC := Lib.hid (fun W => Var_any (l1[j]'hjl) hlb.1 hlb.2 W)
              have HST := Lib.hid (show setLit (fixB M (l1.take j)) (l1[j]'hjl) = (fixB M (l1.take j)).set ((varI (l1[j]'hjl)).toNat - 1) (decide (0 < l1[j]'hjl)) from rfl)
              have HFL := Lib.hid (show (fixB M (l1.take j)).length = n by rw [fixB_length]; exact HML.out)
              generalize fixB M (l1.take j) = M2 at *
              generalize l1[j]'hjl = x at *
              generalize hvv : varI x = v at *
              clear hlb hjl hbl2 hvv
              obtain ⟨hv1, hv2⟩ := hv
              have k2 : wr.cell? ⟨w2.heap.size, 0, none⟩ = some (.slice A n c') := HI.out.ob.cell 0
              obtain ⟨g, hg, hbg, hrow⟩ := HI.out.own.row (by omega)
              subst hg
              have hcs : wr.cell? ⟨g, v.toNat - 1, none⟩ = some (.bool (M2.getD (v.toNat - 1) false)) := hrow.cell (bools_at (by rw [HFL.out]; omega))
              have hfz : wr.frozen? ⟨g, v.toNat - 1, none⟩ = false := hrow.frozen _
              have e1 : IntKind.i64.wrap (v - 1) = v - 1 := IntWalk.i64_in _ (by omega)
              have HGG := Lib.hid (HG0.out.1 g rfl)
              have HNX := Lib.hid (show Inv w.heap.size g0 W5.heap.size w2.heap.size (some ⟨g, 0, none⟩) n c' W5 (fixB M (l1.take (j + 1))) (wr.setCell ⟨g, v.toNat - 1, none⟩ (.bool (decide (0 < x)))).drew from
                ⟨by
                  have := (HI.out.own.set_ (v.toNat - 1) (by omega) (.bool (decide (0 < x)))).drewN 1
                  rw [HFX.out, HST.out]; show App.Own _ _ _ _ _ _ (List.map Value.bool (M2.set _ _)); rw [List.map_set]; exact this,
                 ((HI.out.ob.far (by have := HGG.out; show w2.heap.size ≠ g; omega) _)).drew,
                 (HI.out.md.setCell (p := ⟨g, v.toNat - 1, none⟩) (.inl (.inl HGG.out.1)) _).drew⟩)
              clear hrow
              gi_wp2_with fail
              have hmx : Try.prog.follows .mixedOrders = true := by kernel_rfl
              refine wpIn_mono (Q := fun e a' w' => e = Exit.normal ∧ a' = { tmps := #[.slice a n c, .slice sa sn sc, .pointer (some ⟨w.heap.size, 0, none⟩), undef, u4, u5, .func (.func 32) #[] #[.pointer (some ⟨w.heap.size, 0, none⟩)], undef, u8, .pointer (some ⟨w2.heap.size, 0, none⟩), .pointer (some ⟨Bx, 0, none⟩), undef, .int .i32 x, .func (.func 32) #[] #[.pointer (some ⟨w.heap.size, 0, none⟩)], .slice sa sn sc, .int .i64 sn, .int .i64 k, .bool false, u18, u19, u20, u21, u22, u23, u24, u25, u26, u27, u28, u29, u30, .slice a n c, .slice (some ⟨g, 0, none⟩) n c', .slice sa sn sc, .func (.func 56) #[] #[.pointer (some ⟨w2.heap.size + 1, 0, none⟩)], .agg #[.slice (some ⟨b2, off2, none⟩) n1 c1, .slice A2 n2 c2], .pointer (some ⟨Bx, 1, none⟩), .slice A2 n2 c2, .slice (some ⟨g, 0, none⟩) n c', .bool false, .pointer (some ⟨Bx, 0, none⟩), .slice (some ⟨b2, off2, none⟩) n1 c1, .int .i64 n1, .int .i64 j, .bool true, .pointer (some ⟨b2, off2 + j, none⟩), .int .i32 x, .slice (some ⟨g, 0, none⟩) n c', .int .i32 x, .int .i64 v, .int .i64 (v - 1), .int .i32 x, .bool (decide (0 < x)), .pointer (some ⟨g, v.toNat - 1, none⟩), u54, undef], defers := [] } ∧ w' = (wr.setCell ⟨g, v.toNat - 1, none⟩ (.bool (decide (0 < x)))).drew) ?reg ?cont
              case reg =>
                gi_region_with_o (refine ⟨trivial, ?_⟩; gi_at_call 33; refine (CallsIn.inRound l (callsIn_wide.2 (HC.out _))).mono ?_; rintro e w7 ⟨rfl, rfl⟩)
                all_goals exact ⟨rfl, rfl, rfl⟩
              case cont =>
                rintro e a' w' ⟨rfl, rfl, rfl⟩
                have HKX := Lib.hid (show KeepsFrom W5.heap.size W (wr.setCell ⟨g, v.toNat - 1, none⟩ (.bool (decide (0 < x)))).drew from HKF.out.trans (((KeepsOthers.setCell wr ⟨g, v.toNat - 1, none⟩ (.bool (decide (0 < x)))).trans (KeepsOthers.drew _)).from _))
                have HKY := Lib.hid (show KpG g0 W5.heap.size W (wr.setCell ⟨g, v.toNat - 1, none⟩ (.bool (decide (0 < x)))).drew from (HKP.out.setCell (p := ⟨g, v.toNat - 1, none⟩) (.inl (.inl HGG.out.1)) _).drew)
                gi_wp2
                go_roundw
                case rel => exact ⟨j + 1, by omega, by go_num, HNX.out, HKX.out, HKY.out⟩
                case measure => simp [intOf]; omega
            · have HEE := Lib.hid (show stepB M ⟨⟨A1, n1, c1, l1⟩, ⟨A2, n2, c2, l2⟩⟩ = fixB M (l1.take j) by rw [HR.out, List.take_of_length_le (by rw [← HLL.out]; omega)])
              gi_wp2
              refine ⟨HKF.out, HKP.out, ?_⟩
              show Inv w.heap.size g0 W5.heap.size w2.heap.size A n c' W5 (foldM m _) _
              rw [HF.out, HEE.out]
              exact HI.out
      case done =>
        rintro D xs W hD hxs hi hK
        have k2 : W.cell? ⟨w2.heap.size, 0, none⟩ = some (.slice A n c') := hi.ob.cell 0
        have HI := Lib.hid hi
        have HK := Lib.hid hK
        have HFA := Lib.hid (foldM_all m xs hxs)
        clear hi hK
        go_wp2
        have HI2 := Lib.hid (HI.out.mod (W' := W.putObj D (.deferred none)) ((Mod.grown (grownBy_putObj' W D _)).mono (fun i _ e => by cases e; exact hD)) HA5.out (by have := HS5.out; omega))
        have hHI := HI2.out
        rw [HFA.out] at hHI
        refine ⟨by simp, .inl ⟨_, _, rfl, run_takeDeferred HK.out, _, results_tmp2 rfl _ _ _, ?_, .inr ⟨HE.out, A, c', rfl, hHI.own⟩⟩⟩
        exact HB5.out.trans (hHI.md.below (fun i hi h => by have := HG0.out; have := HB5.out.size; omega) HB5.out.size)
      case stop =>
        rintro D c pre W _ _ h _
        exact h.elim
end Go.Proofs.Ytfpohiflpemkjaa.Ex
