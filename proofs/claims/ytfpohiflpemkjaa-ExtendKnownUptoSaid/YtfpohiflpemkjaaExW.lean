/- works of layer 8, and ExtendPlays at whatever memory. -/
import Derived.Test.YtfpohiflpemkjaaExL
import Derived.Test.YtfpohiflpemkjaaLit
namespace Go.Proofs.Ytfpohiflpemkjaa.Ex
open Go.RowKit Go.Proofs.Ytfpohiflpemkjaa.Mem Go.Proofs.Ytfpohiflpemkjaa.Sl Go.Proofs.Ytfpohiflpemkjaa.Cl Go.Proofs.Ytfpohiflpemkjaa.App Go.Shelf
open Go.Proofs.Ytfpohiflpemkjaa.FnL (Pred enc_at below_then)
set_option linter.unusedVariables false

theorem wt_blk {W : World} {B g n : Nat} {t : TypeId} {st : List WV} (h : Blk W g t (st.flatMap (fun x => [x.l.v, x.c.v])).toArray) (hg : g < B) (hn : n = st.length) (hm : n ≤ 9223372036854775807) (ha : ∀ x, x ∈ st → ClOk B W x.l ∧ ClOk B W x.c) : WtOk B W (some ⟨g, 0, none⟩) n st :=
  ⟨hn, hm, fun _ => ⟨g, 0, rfl, hg, fun i x hi => by
    have key : ∀ (st : List WV) (i : Nat) (x : WV), st[i]? = some x → (st.flatMap (fun x => [x.l.v, x.c.v]))[i * 2]? = some x.l.v ∧ (st.flatMap (fun x => [x.l.v, x.c.v]))[i * 2 + 1]? = some x.c.v := by
      intro st
      induction st with
      | nil => intro i x h; simp at h
      | cons y st ih =>
        intro i x h
        cases i with
        | zero =>
          simp at h
          subst h
          simp
        | succ i =>
          have := ih i x (by simpa using h)
          have e1 : (i + 1) * 2 = i * 2 + 1 + 1 := by omega
          rw [e1]
          simpa using this
    have := key st i x hi
    exact ⟨by rw [Nat.zero_add, h.cell]; simpa using this.1, by rw [Nat.zero_add, h.cell]; simpa using this.2⟩⟩, ha⟩
theorem wt_nil {W : World} {B : Nat} : WtOk B W none 0 [] := ⟨rfl, Nat.zero_le _, fun h => absurd h (by simp), fun y h => by cases h⟩

theorem works_any (w : World) :
    Calls Try.prog 14 #[] w fun e w' => e = .returned (.bool true) ∧ Below w.heap.size w w' := by
  go_enter Try.func14, Try.ntmps14
  go_wp2_with fail
  obtain ⟨W, hW⟩ : ∃ W, W = ((((((w.alloc (Obj.cells #[Value.bool false, Value.bool false] 4)).alloc (Obj.cells #[Value.int IntKind.i32 2] 47)).alloc (Obj.cells #[Value.int IntKind.i32 1, Value.int IntKind.i32 2] 47)).alloc (Obj.cells #[Value.int IntKind.i32 1, Value.int IntKind.i32 (-2)] 47)).alloc (Obj.cells #[Value.int IntKind.i32 1] 47)).alloc
      (Obj.cells #[Value.slice (some { block := w.heap.size + 1, off := 0 }) 1 1, Value.slice (some { block := w.heap.size + 1 + 1, off := 0 }) 2 2, Value.slice (some { block := w.heap.size + 1 + 1 + 1, off := 0 }) 2 2, Value.slice (some { block := w.heap.size + 1 + 1 + 1 + 1, off := 0 }) 1 1] 42)) := ⟨_, rfl⟩
  rw [← hW]
  have hs : W.heap.size = w.heap.size + 6 := by rw [hW]; simp
  have HB := Lib.hid (show Below w.heap.size w W by
    rw [hW]
    exact (((((((Below.refl _ w).alloc (Nat.le_refl _) _).alloc (by simp) _).alloc (by simp; omega) _).alloc (by simp; omega) _).alloc (by simp; omega) _).alloc (by simp; omega) _))
  have hm : MdOk W.heap.size W (some ⟨w.heap.size, 0, none⟩) 2 [false, false] := md_blk (t := 4) (by rw [hW]; repeat (first | exact blk_here (by simp) | refine Blk.alloc ?_ _)) (by omega) rfl (by decide)
  have h1 : ClOk W.heap.size W ⟨some ⟨w.heap.size + 1, 0, none⟩, 1, 1, [2]⟩ := cl_blk (t := 47) (by rw [hW]; repeat (first | exact blk_here (by simp) | refine Blk.alloc ?_ _)) (by omega) rfl (by decide) (by decide)
  have h2 : ClOk W.heap.size W ⟨some ⟨w.heap.size + 1 + 1, 0, none⟩, 2, 2, [1, 2]⟩ := cl_blk (t := 47) (by rw [hW]; repeat (first | exact blk_here (by simp) | refine Blk.alloc ?_ _)) (by omega) rfl (by decide) (by decide)
  have h3 : ClOk W.heap.size W ⟨some ⟨w.heap.size + 1 + 1 + 1, 0, none⟩, 2, 2, [1, -2]⟩ := cl_blk (t := 47) (by rw [hW]; repeat (first | exact blk_here (by simp) | refine Blk.alloc ?_ _)) (by omega) rfl (by decide) (by decide)
  have h4 : ClOk W.heap.size W ⟨some ⟨w.heap.size + 1 + 1 + 1 + 1, 0, none⟩, 1, 1, [1]⟩ := cl_blk (t := 47) (by rw [hW]; repeat (first | exact blk_here (by simp) | refine Blk.alloc ?_ _)) (by omega) rfl (by decide) (by decide)
  have h5 : WtOk W.heap.size W (some ⟨w.heap.size + 1 + 1 + 1 + 1 + 1, 0, none⟩) 2 [⟨⟨some ⟨w.heap.size + 1, 0, none⟩, 1, 1, [2]⟩, ⟨some ⟨w.heap.size + 1 + 1, 0, none⟩, 2, 2, [1, 2]⟩⟩, ⟨⟨some ⟨w.heap.size + 1 + 1 + 1, 0, none⟩, 2, 2, [1, -2]⟩, ⟨some ⟨w.heap.size + 1 + 1 + 1 + 1, 0, none⟩, 1, 1, [1]⟩⟩] :=
    wt_blk (t := 42) (by rw [hW]; repeat (first | exact blk_here (by simp) | refine Blk.alloc ?_ _)) (by omega) rfl (by decide) (by
      intro x hx
      rcases List.mem_cons.1 hx with rfl | hx
      · exact ⟨h1, h2⟩
      · rcases List.mem_cons.1 hx with rfl | hx
        · exact ⟨h3, h4⟩
        · cases hx)
  have HC := Lib.hid (extend_any (Nat.le_refl _) _ 2 2 _ hm (fun h => by cases h) (by decide) _ 2 2 _ h5)
  clear hs hm h1 h2 h3 h4 h5 hW
  refine HC.out.mono ?_
  rintro e w1 ⟨hb1, (⟨h, _⟩ | ⟨_, A, c', rfl, hO⟩)⟩
  · exact absurd (show true = false from h) (by decide)
  have HO := Lib.hid (show OwnM w1 W.heap.size A 2 c' [true, false] from hO)
  have HB1 := Lib.hid (below_then HB.out hb1 HB.out.size)
  clear hO hb1 HC HB
  go_wp2_with fail
  obtain ⟨W2, hW⟩ : ∃ W2, W2 = ((((w1.alloc (Obj.cells #[Value.bool false, Value.bool false] 4)).alloc (Obj.cells #[Value.int IntKind.i32 2] 47)).alloc (Obj.cells #[Value.int IntKind.i32 1, Value.int IntKind.i32 2] 47)).alloc
      (Obj.cells #[Value.slice (some { block := w1.heap.size + 1, off := 0 }) 1 1, Value.slice (some { block := w1.heap.size + 1 + 1, off := 0 }) 2 2] 42)) := ⟨_, rfl⟩
  rw [← hW]
  have hs : W2.heap.size = w1.heap.size + 4 := by rw [hW]; simp
  have HBX := Lib.hid (show Below w1.heap.size w1 W2 by
    rw [hW]
    exact (((((Below.refl _ w1).alloc (Nat.le_refl _) _).alloc (by simp) _).alloc (by simp; omega) _).alloc (by simp; omega) _))
  have hm : MdOk W2.heap.size W2 (some ⟨w1.heap.size, 0, none⟩) 2 [false, false] := md_blk (t := 4) (by rw [hW]; repeat (first | exact blk_here (by simp) | refine Blk.alloc ?_ _)) (by omega) rfl (by decide)
  have h1 : ClOk W2.heap.size W2 ⟨some ⟨w1.heap.size + 1, 0, none⟩, 1, 1, [2]⟩ := cl_blk (t := 47) (by rw [hW]; repeat (first | exact blk_here (by simp) | refine Blk.alloc ?_ _)) (by omega) rfl (by decide) (by decide)
  have h2 : ClOk W2.heap.size W2 ⟨some ⟨w1.heap.size + 1 + 1, 0, none⟩, 2, 2, [1, 2]⟩ := cl_blk (t := 47) (by rw [hW]; repeat (first | exact blk_here (by simp) | refine Blk.alloc ?_ _)) (by omega) rfl (by decide) (by decide)
  have h5 : WtOk W2.heap.size W2 (some ⟨w1.heap.size + 1 + 1 + 1, 0, none⟩) 1 [⟨⟨some ⟨w1.heap.size + 1, 0, none⟩, 1, 1, [2]⟩, ⟨some ⟨w1.heap.size + 1 + 1, 0, none⟩, 2, 2, [1, 2]⟩⟩] :=
    wt_blk (t := 42) (by rw [hW]; repeat (first | exact blk_here (by simp) | refine Blk.alloc ?_ _)) (by omega) rfl (by decide) (by
      intro x hx
      rcases List.mem_cons.1 hx with rfl | hx
      · exact ⟨h1, h2⟩
      · cases hx)
  have HC := Lib.hid (extend_any (Nat.le_refl _) _ 2 2 _ hm (fun h => by cases h) (by decide) _ 1 1 _ h5)
  have HO2 := Lib.hid (HO.out.below HBX.out)
  have HB2 := Lib.hid (below_then HB1.out HBX.out HB1.out.size)
  clear hs hm h1 h2 h5 hW
  refine HC.out.mono ?_
  rintro e w3 ⟨hb3, (⟨h, _⟩ | ⟨_, A3, c3, rfl, hO⟩)⟩
  · exact absurd (show true = false from h) (by decide)
  have HP := Lib.hid (show OwnM w3 W2.heap.size A3 2 c3 [false, true] from hO)
  have HO3 := Lib.hid (HO2.out.below hb3)
  have HB3 := Lib.hid (below_then HB2.out hb3 HB2.out.size)
  clear hO hb3 HC HB1 HO HB2 HO2 HBX
  go_wp2_with fail
  obtain ⟨W4, hW⟩ : ∃ W4, W4 = w3.alloc (Obj.cells #[Value.bool true, Value.bool false] 4) := ⟨_, rfl⟩
  rw [← hW]
  have hs : W4.heap.size = w3.heap.size + 1 := by rw [hW]; simp
  have HBX := Lib.hid (show Below w3.heap.size w3 W4 from hW ▸ (Below.refl _ w3).alloc (Nat.le_refl _) _)
  have hm : MdOk W4.heap.size W4 (some ⟨w3.heap.size, 0, none⟩) 2 [true, false] := md_blk (t := 4) (by rw [hW]; repeat (first | exact blk_here (by simp) | refine Blk.alloc ?_ _)) (by omega) rfl (by decide)
  have HC := Lib.hid (sameModel_any (Nat.le_refl _) A 2 c' [true, false] (OwnM.md (HO3.out.below HBX.out) (by decide)) _ 2 2 _ hm)
  have HP2 := Lib.hid (HP.out.below HBX.out)
  have HB4 := Lib.hid (below_then HB3.out HBX.out HB3.out.size)
  clear hs hm hW
  refine HC.out.mono ?_
  rintro e w5 ⟨rfl, hb5⟩
  have HP5 := Lib.hid (HP2.out.below hb5)
  have HB5 := Lib.hid (below_then HB4.out hb5 HB4.out.size)
  clear hb5 HC HB4 HP2 HBX HO3 HP HB3
  rw [show (([true, false] : List Bool) == [true, false]) = true from rfl]
  go_wp2_with fail
  obtain ⟨W6, hW⟩ : ∃ W6, W6 = w5.alloc (Obj.cells #[Value.bool false, Value.bool true] 4) := ⟨_, rfl⟩
  rw [← hW]
  have hs : W6.heap.size = w5.heap.size + 1 := by rw [hW]; simp
  have HBX := Lib.hid (show Below w5.heap.size w5 W6 from hW ▸ (Below.refl _ w5).alloc (Nat.le_refl _) _)
  have hm : MdOk W6.heap.size W6 (some ⟨w5.heap.size, 0, none⟩) 2 [false, true] := md_blk (t := 4) (by rw [hW]; repeat (first | exact blk_here (by simp) | refine Blk.alloc ?_ _)) (by omega) rfl (by decide)
  have HC := Lib.hid (sameModel_any (Nat.le_refl _) A3 2 c3 [false, true] (OwnM.md (HP5.out.below HBX.out) (by decide)) _ 2 2 _ hm)
  have HB6 := Lib.hid (below_then HB5.out HBX.out HB5.out.size)
  clear hs hm hW
  refine HC.out.mono ?_
  rintro e w7 ⟨rfl, hb7⟩
  have HB7 := Lib.hid (below_then HB6.out hb7 HB6.out.size)
  clear hb7
  rw [show (([false, true] : List Bool) == [false, true]) = true from rfl]
  go_wp2
  go_ret
  exact ⟨rfl, HB7.out⟩

def errB (N : Int) (st : List WV) : Int := if okB N st then 0 else 4
def resB (N : Int) (m : List Bool) (st : List WV) : List Bool := if okB N st then extendB m st else []
theorem resB_le (N : Int) (m : List Bool) (st : List WV) : (resB N m st).length ≤ m.length := by
  unfold resB; split
  · rw [extendB_length]; exact Nat.le_refl _
  · simp
theorem Own_nil {w : World} {base n c : Nat} {t : TypeId} {A : Option Addr} {xs : List Value} (h : App.Own w base t A n c xs) (hA : A = none) : c = 0 := by
  obtain ⟨_, ⟨_, h, _⟩ | ⟨g, rfl, _⟩⟩ := h
  · exact h
  · cases hA
def ExtR (w : World) (n : Nat) (m : List Bool) (st : List WV) (e : Ending) (w' : World) : Prop := ∃ A c', e = .returned (.tuple #[.slice A (resB n m st).length c', .int .i64 (errB n st)]) ∧ OwnM w' w.heap.size A (resB n m st).length c' (resB n m st) ∧ Below w.heap.size w w'
theorem extR_of {w w' : World} {e : Ending} {n : Nat} {m : List Bool} {st : List WV} (hn : n = m.length) (h : Below w.heap.size w w' ∧
      ((okB n st = false ∧ e = .returned (.tuple #[.slice none 0 0, .int .i64 4])) ∨ (okB n st = true ∧ ∃ A c', e = .returned (.tuple #[.slice A n c', .int .i64 0]) ∧ OwnM w' w.heap.size A n c' (extendB m st)))) : ExtR w n m st e w' := by
  obtain ⟨hb, ⟨h1, rfl⟩ | ⟨h1, A, c', rfl, hO⟩⟩ := h
  · refine ⟨none, 0, ?_, ?_, hb⟩
    · unfold resB errB; rw [h1]; rfl
    · unfold resB; rw [h1]; exact Own.nil _ _ _
  · have hl : (resB n m st).length = n := by unfold resB; rw [h1, if_pos rfl, extendB_length, hn]
    refine ⟨A, c', ?_, ?_, hb⟩
    · rw [hl]; unfold errB; rw [h1]; rfl
    · rw [hl]; unfold resB; rw [h1]; exact hO
set_option maxRecDepth 100000 in
theorem plays_any {B : Nat} {w : World} (hB : B ≤ w.heap.size) (a : Option Addr) (n c : Nat) (m : List Bool) (hm : MdOk B w a n m) (hnil : a = none → c = 0) (sa : Option Addr) (sn sc : Nat) (st : List WV) (hst : WtOk B w sa sn st) :
    Calls Try.prog 3 #[.slice a n c, .slice sa sn sc] w fun e w' => e = .returned (.bool true) ∧ Below w.heap.size w w' := by
  have HM := Lib.hid hm
  have HX := Lib.hid hst
  have HS := Lib.hid hB
  have HNIL := Lib.hid hnil
  have hmx := hm.mx
  have HF := Lib.hid (few_any hB sa sn sc st hst)
  clear hm hst hB hnil
  go_enter Try.func3, Try.ntmps3
  go_wp2_with fail
  refine HF.out.mono ?_
  rintro e w1 ⟨⟨b, rfl⟩, hb1⟩
  have HB1 := Lib.hid hb1
  clear hb1
  cases b with
  | false =>
    go_wp2
    go_ret
    exact ⟨rfl, HB1.out⟩
  | true =>
    by_cases hn : n ≤ 1000
    · obtain ⟨i0, hi⟩ := Option.isSome_iff_exists.1 (show (Try.prog.info? 4).isSome = true by kernel_rfl)
      have hz : (Try.prog.info? 4).map (fun i => (i.zero, i.size, i.bytes)) = some (some (.bool false), 1, 1) := by kernel_rfl
      rw [hi] at hz
      injection hz with hz
      injection hz with hz0 hz
      injection hz with hz1 hz2
      have HM1 := Lib.hid (HM.out.below (HB1.out.mono HS.out))
      have HX1 := Lib.hid (HX.out.below (HB1.out.mono HS.out))
      have HS1 := Lib.hid (Nat.le_trans HS.out HB1.out.size)
      have HOW := Lib.hid fun (v' : Value) (w2 : World) (hown : w2.ownsRow w1.heap.size 4 1 v' (0 + n) ([] ++ m.map Value.bool)) => Own.of (by rwa [Nat.zero_add, List.nil_append] at hown)
      go_wp2_with (at_builtin; refine wpList_app rfl _ _ 23 rfl w1.heap.size 4 i0 (.bool false) 1 Try.underlying23 hi hz0 hz1 hz2 rfl (.slice none 0 0) 0 [] rfl (World.ownsRow_nil _ _ _ _) a n c (m.map Value.bool) rfl (by simpa using HM1.out.ln) (HM1.out.rd.rd HS1.out) HNIL.out (fun u hu => by obtain ⟨x, _, rfl⟩ := List.mem_map.1 hu; rfl) (by unfold maxLen; omega) (by omega) (Nat.le_refl _) ?_; intro v' w2 hown hgrow; obtain ⟨A, c', rfl, hO⟩ := HOW.out v' w2 hown; have HO := Lib.hid hO; have HB2 := Lib.hid (show Below w1.heap.size w1 w2 from (Mod.grown hgrow).below (fun i _ e => by cases e) (Nat.le_refl _)); clear hown hgrow hO)
      have HX2 := Lib.hid (HX1.out.below (HB2.out.mono HS1.out))
      have HM2 := Lib.hid (HM1.out.below (HB2.out.mono HS1.out))
      have HS2 := Lib.hid (Nat.le_trans HS1.out HB2.out.size)
      have HC := Lib.hid (extend_any (Nat.le_refl _) A n c' m (OwnM.md HO.out (by omega)) (Own_nil HO.out) (by omega) sa sn sc st ⟨HX2.out.ln, HX2.out.mx, fun hp => by
        obtain ⟨b, off, e, hx, hc⟩ := HX2.out.rd hp
        exact ⟨b, off, e, Nat.lt_of_lt_of_le hx HS2.out, hc⟩, fun x hx => ⟨(HX2.out.all x hx).1.up HS2.out, (HX2.out.all x hx).2.up HS2.out⟩⟩)
      have HN := Lib.hid HM.out.ln
      have HB3 := Lib.hid (below_then HB1.out HB2.out HB1.out.size)
      clear hi hz0 hz1 hz2
      refine HC.out.mono ?_
      intro e w3 h3
      obtain ⟨A3, c3, rfl, hO3, hb3⟩ := extR_of HN.out h3
      clear h3
      have HO3 := Lib.hid hO3
      have HO' := Lib.hid (HO.out.below hb3)
      have HX3 := Lib.hid (HX2.out.below (hb3.mono HS2.out))
      have HM3 := Lib.hid (HM2.out.below (hb3.mono HS2.out))
      have HS3 := Lib.hid (Nat.le_trans HS2.out hb3.size)
      have HB4 := Lib.hid (below_then HB3.out hb3 HB3.out.size)
      have HC3 := Lib.hid (rextend_any HS3.out a n c m HM3.out HNIL.out (by omega) sa sn sc st HX3.out)
      clear hO3 hb3 HC
      have HRL := Lib.hid (show (resB n m st).length ≤ 1000 from Nat.le_trans (resB_le _ _ _) (by rw [← HN.out]; exact hn))
      go_wp2_with fail
      refine HC3.out.mono ?_
      intro e w4 h4
      obtain ⟨A4, c4, rfl, hO4, hb4⟩ := extR_of HN.out h4
      clear h4
      have HO4 := Lib.hid hO4
      have HO3' := Lib.hid (HO3.out.below hb4)
      have HO'' := Lib.hid (HO'.out.below hb4)
      have HM4 := Lib.hid (HM3.out.below (hb4.mono HS3.out))
      have HB5 := Lib.hid (below_then HB4.out hb4 HB4.out.size)
      have HS4 := Lib.hid (Nat.le_trans HS3.out hb4.size)
      clear hO4 hb4 HC3
      generalize errB n st = er at *
      generalize resB n m st = R at *
      have HRN := Lib.hid (show R.length = R.length from rfl)
      obtain ⟨rn, hrn⟩ : ∃ rn, rn = R.length := ⟨_, rfl⟩
      rw [← hrn] at HO3' HO4 HRL ⊢
      clear HO3 HRN hrn
      have hrl := HRL.out
      have HC4 := Lib.hid (sameModel_any (Nat.le_refl _) A3 rn c3 R (OwnM.md HO3'.out (by omega)) A4 rn c4 R (OwnM.md HO4.out (by omega)))
      go_wp2_with fail
      refine HC4.out.mono ?_
      rintro e w5 ⟨rfl, hb5⟩
      have HO5 := Lib.hid (HO''.out.below hb5)
      have HO35 := Lib.hid (HO3'.out.below hb5)
      have HM5 := Lib.hid (HM4.out.below (hb5.mono HS4.out))
      have HB6 := Lib.hid (below_then HB5.out hb5 HB5.out.size)
      have HS5 := Lib.hid (Nat.le_trans HS4.out hb5.size)
      have HC5 := Lib.hid (sameModel_any (Nat.le_refl _) A n c' m (OwnM.md HO5.out (by omega)) a n c m (HM5.out.up HS5.out))
      clear hb5 HC4
      rw [show (R == R) = true by simp]
      go_wp2_with fail
      refine HC5.out.mono ?_
      rintro e w6 ⟨rfl, hb6⟩
      rw [show (m == m) = true by simp]
      have HO6 := Lib.hid (HO5.out.below hb6)
      have HO36 := Lib.hid (HO35.out.below hb6)
      have HB7 := Lib.hid (below_then HB6.out hb6 HB6.out.size)
      have HW2 := Lib.hid (show w.heap.size ≤ w2.heap.size from HB3.out.size)
      have HA2 := Lib.hid (show ∀ i, A = some ⟨i, 0, none⟩ → i < w2.heap.size from fun i hi => by
        obtain ⟨_, ⟨h, _⟩ | ⟨g, h, h1, _, h3⟩⟩ := HO.out
        · rw [h] at hi; cases hi
        · rw [h] at hi; cases hi; exact h3.lt)
      clear hb6 HC5 HO'' HO5 HO35 HB6 HB5 HM5 HO3' HO4 HO' HB4
      go_wp2_with fail
      go_loopw [11] (fun i wr => ∃ (k : Nat) (M : List Bool), k ≤ rn ∧ i = .int .i64 k ∧ OwnM wr w2.heap.size A3 rn c3 M ∧ OwnM wr w1.heap.size A n c' m ∧ Below w.heap.size w wr) (fun i _ => rn - (intOf i).toNat)
      case atStart => exact ⟨0, R, Nat.zero_le _, rfl, HO36.out, HO6.out, HB7.out⟩
      case round =>
        clear HO36 HO6 HB7
        obtain ⟨k, M, hk, rfl, hO3, hO, hb⟩ := hrel
        have HO3 := Lib.hid hO3
        have HO := Lib.hid hO
        have HB := Lib.hid hb
        clear hO3 hO hb
        by_cases hlt : k < rn
        · have hkl : k < M.length := by have := HO3.out.1; simp at this; omega
          obtain ⟨g, hg, hbg, hrow⟩ := HO3.out.row (by omega)
          subst hg
          have hcs : wr.cell? ⟨g, k, none⟩ = some (.bool (M[k]'hkl)) := hrow.cell (enc_at (enc := Value.bool) hkl)
          have hfz : wr.frozen? ⟨g, k, none⟩ = false := hrow.frozen _
          have HNX := Lib.hid (show OwnM (wr.setCell ⟨g, k, none⟩ (.bool (!(M[k]'hkl)))) w2.heap.size (some ⟨g, 0, none⟩) rn c3 (M.set k (!(M[k]'hkl))) by
            have := HO3.out.set_ k hlt (.bool (!(M[k]'hkl)))
            show App.Own _ _ _ _ _ _ (List.map Value.bool (M.set _ _)); rw [List.map_set]; exact this)
          have HNO := Lib.hid (show OwnM (wr.setCell ⟨g, k, none⟩ (.bool (!(M[k]'hkl)))) w1.heap.size A n c' m from HO.out.mod (S := fun i => i = g) (Mod.setCell (Mod.refl (fun i => i = g) wr) (p := ⟨g, k, none⟩) (.inl rfl) _) (fun i _ hi e => by
            have := HA2.out i hi
            have : w2.heap.size ≤ g := hbg
            omega))
          have HNB := Lib.hid (show Below w.heap.size w (wr.setCell ⟨g, k, none⟩ (.bool (!(M[k]'hkl)))) from HB.out.setCell (p := ⟨g, k, none⟩) (Nat.le_trans HW2.out hbg) _)
          generalize M[k]'hkl = y at *
          clear hrow hbg hkl
          go_wp2
          go_roundw
          case rel => exact ⟨k + 1, _, by omega, by go_num, HNX.out, HNO.out, HNB.out⟩
          case measure => simp [intOf]; omega
        · have HC := Lib.hid (sameModel_any (Nat.le_refl _) A n c' m (OwnM.md HO.out (by omega)) a n c m ((HM.out.below (HB.out.mono HS.out)).up (Nat.le_trans HS.out HB.out.size)))
          go_wp2_with fail
          refine HC.out.mono ?_
          rintro e w7 ⟨rfl, hb7⟩
          have HB7 := Lib.hid (below_then HB.out hb7 HB.out.size)
          rw [show (m == m) = true by simp]
          clear hb7 HC
          go_wp2_with fail
          refine (works_any w7).mono ?_
          rintro e w8 ⟨rfl, hb8⟩
          have HB8 := Lib.hid (below_then HB7.out hb8 HB7.out.size)
          clear hb8
          go_wp2
          go_ret
          exact ⟨rfl, HB8.out⟩
    · go_wp2
      go_ret
      exact ⟨rfl, HB1.out⟩
end Go.Proofs.Ytfpohiflpemkjaa.Ex
