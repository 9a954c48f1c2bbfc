/- The walk of Reach of the document's store. -/
import Derived.Test.YtcmicmghnmklnaaPhV
import Derived.Laws.AppendOwn
import Derived.Laws.AppendOwnNone
namespace Go.Proofs.Ytcmicmghnmklnaa.Ph
open Go.RowKit Go.Proofs.Ytcmicmghnmklnaa.Mem Go.Proofs.Ytcmicmghnmklnaa.Sl Go.Shelf
set_option linter.unusedVariables false

theorem Rf.val_mod {w w' : World} {B g : Nat} {m : PM} {r : RV} (h : Rf w B g m r) (hm : Mod (fun i => i = g) w w') : ValI w' B r.vA m.saved r.vc := by
  rcases h.val with k | ⟨i, k1, k2, k3⟩
  · exact .inl k
  · exact .inr ⟨i, k1, k2, k3.mod hm (h.ne_val k1)⟩
theorem Rf.targ {w w' : World} {B g : Nat} {m : PM} {r : RV} (h : Rf w B g m r) (hm : Mod (fun i => i = g) w w') (A : Option Addr) (c : Nat) (l : List Int) (hl : LitI w' B A l c) (hf : Fits m.saved.length l) (h4 : l.length ≤ 4000)
    (hb : Blk w' g 78 (RfC { m with tn := l.length, tv := rowOf l m.saved.length } { r with tA := A, tc := c, tL := l })) : Rf w' B g { m with tn := l.length, tv := rowOf l m.saved.length } { r with tA := A, tc := c, tL := l } :=
  ⟨hb, h.val_mod hm, hl, h.b.mod hm (fun i cs hc => h.ne_lit hc), h.bg, h.len, h.st0, h.st1, h.tu0, hf, h.bf, fun j => rfl, h.bv, h4, h.bm⟩
theorem Rf.top {w w' : World} {B g : Nat} {m : PM} {r : RV} (h : Rf w B g m r) (hm : Mod (fun i => i = g) w w') (A : Option Addr) (c : Nat) (l : List Int) (hl : LitI w' B A l c) (hf : Fits m.saved.length l) (h4 : l.length ≤ 4000)
    (hb : Blk w' g 78 (RfC { m with bn := l.length, bv := rowOf l m.saved.length } { r with bA := A, bc := c, bL := l })) : Rf w' B g { m with bn := l.length, bv := rowOf l m.saved.length } { r with bA := A, bc := c, bL := l } :=
  ⟨hb, h.val_mod hm, h.t.mod hm (fun i cs hc => h.ne_lit hc), hl, h.bg, h.len, h.st0, h.st1, h.tu0, h.tf, hf, h.tv, fun j => rfl, h.tm, h4⟩
/-- Where a store's rows of literals lie behind a call: where they lay, or in new blocks. -/
def Frs (w : World) (r r' : RV) : Prop := (∀ i, r'.tA = some ⟨i, 0, none⟩ → r.tA = some ⟨i, 0, none⟩ ∨ w.heap.size ≤ i) ∧ ∀ i, r'.bA = some ⟨i, 0, none⟩ → r.bA = some ⟨i, 0, none⟩ ∨ w.heap.size ≤ i
theorem Frs.refl (w : World) (r : RV) : Frs w r r := ⟨fun _ h => .inl h, fun _ h => .inl h⟩
theorem lit_own {w : World} {B base n : Nat} {v : Value} {l : List Int} (h : w.ownsRow base 35 1 v n (l.map (Value.int .i32))) (hB : B ≤ base) : ∃ A c, v = .slice A n c ∧ LitI w B A l c ∧ ∀ i, A = some ⟨i, 0, none⟩ → base ≤ i := by
  by_cases hv : v = .slice none 0 0
  · subst hv
    have h1 := h.1
    rcases h.2 with ⟨_, h2⟩ | ⟨g, cap, cur, h3, _⟩
    · subst h2
      rw [List.length_map] at h1
      exact ⟨none, 0, rfl, .inl ⟨rfl, List.eq_nil_of_length_eq_zero (by omega), rfl⟩, fun i e => by cases e⟩
    · cases h3
  · obtain ⟨g, c, rfl, h1, h2⟩ := Row.of_own h hv
    exact ⟨_, c, rfl, .inr ⟨g, rfl, by omega, h2⟩, fun i e => by cases e; exact h1⟩
set_option maxRecDepth 100000 in
theorem rreach_any {w : World} {B g : Nat} {m : PM} {r : RV} (h : Rf w B g m r) (hB : B ≤ w.heap.size) (a : Option Addr) (cap : Nat) (l : List Int) (n : Nat) (hn : n = l.length) (hm : n ≤ 4000) (hr : RdV w a (l.map (Value.int .i32))) (hnil : a = none → cap = 0)
    (hli : ∀ k, k < l.length → -2147483648 ≤ l.getD k 0 ∧ l.getD k 0 ≤ 2147483647) :
    Calls Try.prog 37 #[.pointer (some ⟨g, 0, none⟩), .slice a n cap] w fun e w' => ∃ r', e = .returned (.tuple #[.bool (mayB m.saved.length l && decide (m.tn < l.length)), .bool (mayB m.saved.length l && decide (m.bn < l.length)), .int .i64 (noE (mayB m.saved.length l))]) ∧ Rf w' B g (reachM m l) r' ∧ r'.vA = r.vA ∧ r'.vc = r.vc ∧ Frs w r r' ∧ Mod (fun i => i = g) w w' := by
  have HM := Lib.hid (rmay_any g m.saved.length r.vA r.vc a cap l n w h.len (h.blk.cell 0) hn (by omega) hr hli)
  have HR := Lib.hid hr
  have HN := Lib.hid hn
  have HP := Lib.hid h
  clear hr hn h hli
  by_cases hb : mayB m.saved.length l = true
  · have HF := Lib.hid (fits_of_may hb)
    have HE := Lib.hid hb
    have HS := Lib.hid (show reachM m l = bestM (targetM m l) l by unfold reachM; rw [hb]; rfl)
    rw [hb] at HM
    clear hb
    obtain ⟨i0, hi⟩ := Option.isSome_iff_exists.1 (show (Try.prog.info? 35).isSome = true by kernel_rfl)
    have hz : (Try.prog.info? 35).map (fun i => (i.zero, i.size, i.bytes)) = some (some (.int .i32 0), 1, 4) := by kernel_rfl
    rw [hi] at hz
    injection hz with hz
    injection hz with hz0 hz
    injection hz with hz1 hz2
    go_enter Try.func37, Try.ntmps37
    go_wp2_with fail
    refine HM.out.mono ?_
    rintro e w1 ⟨rfl, rfl⟩
    rcases a with _ | ad
    · have hcap := hnil rfl
      have hl0 : l = [] := by
        rcases l with _ | ⟨x, xs⟩
        · rfl
        · obtain ⟨b, off, e, _⟩ := HR.out (by simp)
          cases e
      have hn0 : n = 0 := by rw [HN.out, hl0]; rfl
      subst hcap
      have HN0 := Lib.hid hn0
      obtain ⟨sx, hsx⟩ : ∃ sx : Value, sx = .slice none n 0 := ⟨_, rfl⟩
      have hsx0 : sx = .slice none 0 0 := by rw [hsx, hn0]
      clear hn0
      go_wp2_with (first
        | (at_builtin; refine wpList_append_own_none rfl _ _ 30 rfl w.heap.size 35 i0 1 Try.underlying30 hi (.slice none 0 0) 0 [] rfl ⟨rfl, .inl ⟨rfl, rfl⟩⟩ (hsx.symm.trans hsx0) ?_))
      obtain ⟨A', hA'⟩ : ∃ A' : Option Addr, A' = none := ⟨_, rfl⟩
      obtain ⟨c', hc'⟩ : ∃ c' : Nat, c' = 0 := ⟨_, rfl⟩
      have hlit : LitI w B A' l c' := .inl ⟨hA', hl0, hc'⟩
      have HFR := Lib.hid (show ∀ i, A' = some ⟨i, 0, none⟩ → w.heap.size ≤ i from fun i e => by rw [hA'] at e; cases e)
      have hv : (Value.slice none 0 0) = .slice A' n c' := by rw [hA', HN0.out, hc']
      rw [hv]
      have hb2 : Below w.heap.size w w := Below.refl _ _
      clear hv hA' hc' hsx hsx0 hi hz0 hz1 hz2 hl0
      have HLIT := Lib.hid hlit
      have HB2 := Lib.hid hb2
      have HP2 := Lib.hid (HP.out.below hb2)
      have d2 : w.cell? ⟨g, 2, none⟩ = some (.int .i64 m.tn) := HP2.out.blk.cell 2
      have d4 : w.cell? ⟨g, 4, none⟩ = some (.int .i64 m.bn) := HP2.out.blk.cell 4
      clear hlit hb2
      go_wp2_with fail
      go_quiet (fail)
      generalize nq = nq at *
      obtain ⟨W, hW⟩ : ∃ W, W = w.drewN nq := ⟨_, rfl⟩
      rw [← hW]
      have P3 := Lib.hid (show Rf W B g m r from hW ▸ HP2.out.drewN nq)
      have L3 := Lib.hid (show LitI W B A' l c' by rw [hW]; rcases HLIT.out with k | ⟨i, k1, k2, k3⟩; exact .inl k; exact .inr ⟨i, k1, k2, k3.drewN nq⟩)
      have M3 := Lib.hid (show Mem.Mod (fun i => i = g) w W from hW ▸ (Mod.none_ HB2.out _).drewN nq)
      clear hW d2 d4
      have e2 : W.cell? ⟨g, 2, none⟩ = some (.int .i64 m.tn) := P3.out.blk.cell 2
      have e3 : W.cell? ⟨g, 3, none⟩ = some (.slice r.tA r.tL.length r.tc) := P3.out.blk.cell 3
      have e4 : W.cell? ⟨g, 4, none⟩ = some (.int .i64 m.bn) := P3.out.blk.cell 4
      have e5 : W.cell? ⟨g, 5, none⟩ = some (.slice r.bA r.bL.length r.bc) := P3.out.blk.cell 5
      have f2 : W.frozen? ⟨g, 2, none⟩ = false := P3.out.blk.frozen 2
      have f3 : W.frozen? ⟨g, 3, none⟩ = false := P3.out.blk.frozen 3
      have f4 : W.frozen? ⟨g, 4, none⟩ = false := P3.out.blk.frozen 4
      have f5 : W.frozen? ⟨g, 5, none⟩ = false := P3.out.blk.frozen 5
      have hnn := HN.out
      by_cases hx1 : m.tn < (n : Int)
      · have HT1 : Hid (targetM m l = { m with tn := l.length, tv := rowOf l m.saved.length }) := Lib.hid (by unfold targetM; rw [if_pos (by omega)])
        have hm1 : Mem.Mod (fun i => i = g) W ((W.setCell ⟨g, 2, none⟩ (.int .i64 n)).setCell ⟨g, 3, none⟩ (.slice A' n c')) := Mod.setCell (Mod.setCell (Mod.refl (fun i => i = g) W) (p := ⟨g, 2, none⟩) (.inl rfl) _) (p := ⟨g, 3, none⟩) (.inl rfl) _
        have PT := Lib.hid (P3.out.targ hm1 A' c' l (L3.out.mod hm1 (fun i cs hc => P3.out.ne_lit hc)) HF.out (by omega) (by
          have := Blk.set_ (Blk.set_ P3.out.blk 2 (.int .i64 n)) 3 (.slice A' n c')
          rw [hnn] at this ⊢
          simpa [RfC] using this))
        have LT := Lib.hid (L3.out.mod hm1 (fun i cs hc => P3.out.ne_lit hc))
        have HM1 := Lib.hid hm1
        clear hm1
        by_cases hx2 : m.bn < (n : Int)
        · have HB1 : Hid (bestM { m with tn := l.length, tv := rowOf l m.saved.length } l = { { m with tn := (l.length : Int), tv := rowOf l m.saved.length } with bn := l.length, bv := rowOf l m.saved.length }) := Lib.hid (by unfold bestM; rw [if_pos (show m.bn < (l.length : Int) by omega)])
          have hm2 : ∀ W1 : World, Mem.Mod (fun i => i = g) W1 ((W1.setCell ⟨g, 4, none⟩ (.int .i64 n)).setCell ⟨g, 5, none⟩ (.slice A' n c')) := fun W1 => Mod.setCell (Mod.setCell (Mod.refl (fun i => i = g) W1) (p := ⟨g, 4, none⟩) (.inl rfl) _) (p := ⟨g, 5, none⟩) (.inl rfl) _
          have HX1 := Lib.hid (show m.tn < (l.length : Int) ∧ m.bn < (l.length : Int) by omega)
          clear hnn
          go_wp2
          go_ret3
          refine ⟨by rw [HE.out, decide_eq_true HX1.out.1, decide_eq_true HX1.out.2]; rfl, { { r with tA := A', tc := c', tL := l } with bA := A', bc := c', bL := l }, ?_, rfl, rfl, ⟨fun i e => .inr (HFR.out i e), fun i e => .inr (HFR.out i e)⟩, M3.out.then_ (HM1.out.then_ (hm2 _))⟩
          rw [HS.out, HT1.out, HB1.out]
          exact PT.out.top (hm2 _) A' c' l (LT.out.mod (hm2 _) (fun i cs hc => PT.out.ne_lit hc)) HF.out (by have := HN.out; omega) (by
            have := Blk.set_ (Blk.set_ PT.out.blk 4 (.int .i64 n)) 5 (.slice A' n c')
            rw [HN.out] at this ⊢
            simpa [RfC] using this)
        · have HB1 : Hid (bestM { m with tn := l.length, tv := rowOf l m.saved.length } l = { m with tn := l.length, tv := rowOf l m.saved.length }) := Lib.hid (by unfold bestM; rw [if_neg (show ¬ m.bn < (l.length : Int) by omega)])
          have HX1 := Lib.hid (show m.tn < (l.length : Int) ∧ ¬ m.bn < (l.length : Int) by omega)
          clear hnn
          go_wp2
          go_ret3
          refine ⟨by rw [HE.out, decide_eq_true HX1.out.1, ← HN.out]; rfl, { r with tA := A', tc := c', tL := l }, ?_, rfl, rfl, ⟨fun i e => .inr (HFR.out i e), fun i e => .inl e⟩, M3.out.then_ HM1.out⟩
          rw [HS.out, HT1.out, HB1.out]
          exact PT.out
      · have HT1 : Hid (targetM m l = m) := Lib.hid (by unfold targetM; rw [if_neg (by omega)])
        by_cases hx2 : m.bn < (n : Int)
        · have HB1 : Hid (bestM m l = { m with bn := l.length, bv := rowOf l m.saved.length }) := Lib.hid (by unfold bestM; rw [if_pos (show m.bn < (l.length : Int) by omega)])
          have hm2 : Mem.Mod (fun i => i = g) W ((W.setCell ⟨g, 4, none⟩ (.int .i64 n)).setCell ⟨g, 5, none⟩ (.slice A' n c')) := Mod.setCell (Mod.setCell (Mod.refl (fun i => i = g) W) (p := ⟨g, 4, none⟩) (.inl rfl) _) (p := ⟨g, 5, none⟩) (.inl rfl) _
          have HM2 := Lib.hid hm2
          have HX1 := Lib.hid (show ¬ m.tn < (l.length : Int) ∧ m.bn < (l.length : Int) by omega)
          clear hnn hm2
          go_wp2
          go_ret3
          refine ⟨by rw [HE.out, decide_eq_true HX1.out.2, ← HN.out]; rfl, { r with bA := A', bc := c', bL := l }, ?_, rfl, rfl, ⟨fun i e => .inl e, fun i e => .inr (HFR.out i e)⟩, M3.out.then_ HM2.out⟩
          rw [HS.out, HT1.out, HB1.out]
          exact P3.out.top HM2.out A' c' l (L3.out.mod HM2.out (fun i cs hc => P3.out.ne_lit hc)) HF.out (by have := HN.out; omega) (by
            have := Blk.set_ (Blk.set_ P3.out.blk 4 (.int .i64 n)) 5 (.slice A' n c')
            rw [HN.out] at this ⊢
            simpa [RfC] using this)
        · have HB1 : Hid (bestM m l = m) := Lib.hid (by unfold bestM; rw [if_neg (show ¬ m.bn < (l.length : Int) by omega)])
          have HX1 := Lib.hid (show ¬ m.tn < (l.length : Int) ∧ ¬ m.bn < (l.length : Int) by omega)
          clear hnn
          go_wp2
          go_ret3
          refine ⟨by rw [HE.out, ← HN.out]; rfl, r, ?_, rfl, rfl, Frs.refl _ _, M3.out⟩
          rw [HS.out, HT1.out, HB1.out]
          exact P3.out
    · go_wp2_with (first
        | (at_builtin; refine wpList_append_own _ rfl _ _ 30 rfl w.heap.size 35 i0 (.int .i32 0) 1 4 Try.underlying30 hi hz0 hz1 hz2 rfl (by decide) (.slice none 0 0) 0 [] rfl ⟨rfl, .inl ⟨rfl, rfl⟩⟩ ad n cap (l.map (Value.int .i32)) rfl (by rw [List.length_map, ← HN.out]; omega) ?_ (fun u hu => by obtain ⟨x, _, rfl⟩ := List.mem_map.1 hu; rfl) (by unfold maxLen; omega) (by omega) (Nat.le_refl _) ?_
           · exact fun j u hj => by
               obtain ⟨b', off', e', _, hc'⟩ := RdV.at_ HR.out hj
               cases e'
               rw [Go.WideShapes.add_plain]
               exact hc'
           intro v' w2 hown hgrow hnl))
      obtain ⟨A', c', rfl, hlit, hfr⟩ := lit_own (n := n) (by simpa using hown) hB
      have HFR := Lib.hid hfr
      clear hfr
      have hb2 : Below w.heap.size w w2 := (Mod.grown hgrow).below (fun i _ e => by cases e) (Nat.le_refl _)
      clear hown hgrow hnl hi hz0 hz1 hz2
      have HLIT := Lib.hid hlit
      have HB2 := Lib.hid hb2
      have HP2 := Lib.hid (HP.out.below hb2)
      have d2 : w2.cell? ⟨g, 2, none⟩ = some (.int .i64 m.tn) := HP2.out.blk.cell 2
      have d4 : w2.cell? ⟨g, 4, none⟩ = some (.int .i64 m.bn) := HP2.out.blk.cell 4
      clear hlit hb2
      go_wp2_with fail
      go_quiet (fail)
      generalize nq = nq at *
      obtain ⟨W, hW⟩ : ∃ W, W = w2.drewN nq := ⟨_, rfl⟩
      rw [← hW]
      have P3 := Lib.hid (show Rf W B g m r from hW ▸ HP2.out.drewN nq)
      have L3 := Lib.hid (show LitI W B A' l c' by rw [hW]; rcases HLIT.out with k | ⟨i, k1, k2, k3⟩; exact .inl k; exact .inr ⟨i, k1, k2, k3.drewN nq⟩)
      have M3 := Lib.hid (show Mem.Mod (fun i => i = g) w W from hW ▸ (Mod.none_ HB2.out _).drewN nq)
      clear hW d2 d4
      have e2 : W.cell? ⟨g, 2, none⟩ = some (.int .i64 m.tn) := P3.out.blk.cell 2
      have e3 : W.cell? ⟨g, 3, none⟩ = some (.slice r.tA r.tL.length r.tc) := P3.out.blk.cell 3
      have e4 : W.cell? ⟨g, 4, none⟩ = some (.int .i64 m.bn) := P3.out.blk.cell 4
      have e5 : W.cell? ⟨g, 5, none⟩ = some (.slice r.bA r.bL.length r.bc) := P3.out.blk.cell 5
      have f2 : W.frozen? ⟨g, 2, none⟩ = false := P3.out.blk.frozen 2
      have f3 : W.frozen? ⟨g, 3, none⟩ = false := P3.out.blk.frozen 3
      have f4 : W.frozen? ⟨g, 4, none⟩ = false := P3.out.blk.frozen 4
      have f5 : W.frozen? ⟨g, 5, none⟩ = false := P3.out.blk.frozen 5
      have hnn := HN.out
      by_cases hx1 : m.tn < (n : Int)
      · have HT1 : Hid (targetM m l = { m with tn := l.length, tv := rowOf l m.saved.length }) := Lib.hid (by unfold targetM; rw [if_pos (by omega)])
        have hm1 : Mem.Mod (fun i => i = g) W ((W.setCell ⟨g, 2, none⟩ (.int .i64 n)).setCell ⟨g, 3, none⟩ (.slice A' n c')) := Mod.setCell (Mod.setCell (Mod.refl (fun i => i = g) W) (p := ⟨g, 2, none⟩) (.inl rfl) _) (p := ⟨g, 3, none⟩) (.inl rfl) _
        have PT := Lib.hid (P3.out.targ hm1 A' c' l (L3.out.mod hm1 (fun i cs hc => P3.out.ne_lit hc)) HF.out (by omega) (by
          have := Blk.set_ (Blk.set_ P3.out.blk 2 (.int .i64 n)) 3 (.slice A' n c')
          rw [hnn] at this ⊢
          simpa [RfC] using this))
        have LT := Lib.hid (L3.out.mod hm1 (fun i cs hc => P3.out.ne_lit hc))
        have HM1 := Lib.hid hm1
        clear hm1
        by_cases hx2 : m.bn < (n : Int)
        · have HB1 : Hid (bestM { m with tn := l.length, tv := rowOf l m.saved.length } l = { { m with tn := (l.length : Int), tv := rowOf l m.saved.length } with bn := l.length, bv := rowOf l m.saved.length }) := Lib.hid (by unfold bestM; rw [if_pos (show m.bn < (l.length : Int) by omega)])
          have hm2 : ∀ W1 : World, Mem.Mod (fun i => i = g) W1 ((W1.setCell ⟨g, 4, none⟩ (.int .i64 n)).setCell ⟨g, 5, none⟩ (.slice A' n c')) := fun W1 => Mod.setCell (Mod.setCell (Mod.refl (fun i => i = g) W1) (p := ⟨g, 4, none⟩) (.inl rfl) _) (p := ⟨g, 5, none⟩) (.inl rfl) _
          have HX1 := Lib.hid (show m.tn < (l.length : Int) ∧ m.bn < (l.length : Int) by omega)
          clear hnn
          go_wp2
          go_ret3
          refine ⟨by rw [HE.out, decide_eq_true HX1.out.1, decide_eq_true HX1.out.2]; rfl, { { r with tA := A', tc := c', tL := l } with bA := A', bc := c', bL := l }, ?_, rfl, rfl, ⟨fun i e => .inr (HFR.out i e), fun i e => .inr (HFR.out i e)⟩, M3.out.then_ (HM1.out.then_ (hm2 _))⟩
          rw [HS.out, HT1.out, HB1.out]
          exact PT.out.top (hm2 _) A' c' l (LT.out.mod (hm2 _) (fun i cs hc => PT.out.ne_lit hc)) HF.out (by have := HN.out; omega) (by
            have := Blk.set_ (Blk.set_ PT.out.blk 4 (.int .i64 n)) 5 (.slice A' n c')
            rw [HN.out] at this ⊢
            simpa [RfC] using this)
        · have HB1 : Hid (bestM { m with tn := l.length, tv := rowOf l m.saved.length } l = { m with tn := l.length, tv := rowOf l m.saved.length }) := Lib.hid (by unfold bestM; rw [if_neg (show ¬ m.bn < (l.length : Int) by omega)])
          have HX1 := Lib.hid (show m.tn < (l.length : Int) ∧ ¬ m.bn < (l.length : Int) by omega)
          clear hnn
          go_wp2
          go_ret3
          refine ⟨by rw [HE.out, decide_eq_true HX1.out.1, ← HN.out]; rfl, { r with tA := A', tc := c', tL := l }, ?_, rfl, rfl, ⟨fun i e => .inr (HFR.out i e), fun i e => .inl e⟩, M3.out.then_ HM1.out⟩
          rw [HS.out, HT1.out, HB1.out]
          exact PT.out
      · have HT1 : Hid (targetM m l = m) := Lib.hid (by unfold targetM; rw [if_neg (by omega)])
        by_cases hx2 : m.bn < (n : Int)
        · have HB1 : Hid (bestM m l = { m with bn := l.length, bv := rowOf l m.saved.length }) := Lib.hid (by unfold bestM; rw [if_pos (show m.bn < (l.length : Int) by omega)])
          have hm2 : Mem.Mod (fun i => i = g) W ((W.setCell ⟨g, 4, none⟩ (.int .i64 n)).setCell ⟨g, 5, none⟩ (.slice A' n c')) := Mod.setCell (Mod.setCell (Mod.refl (fun i => i = g) W) (p := ⟨g, 4, none⟩) (.inl rfl) _) (p := ⟨g, 5, none⟩) (.inl rfl) _
          have HM2 := Lib.hid hm2
          have HX1 := Lib.hid (show ¬ m.tn < (l.length : Int) ∧ m.bn < (l.length : Int) by omega)
          clear hnn hm2
          go_wp2
          go_ret3
          refine ⟨by rw [HE.out, decide_eq_true HX1.out.2, ← HN.out]; rfl, { r with bA := A', bc := c', bL := l }, ?_, rfl, rfl, ⟨fun i e => .inl e, fun i e => .inr (HFR.out i e)⟩, M3.out.then_ HM2.out⟩
          rw [HS.out, HT1.out, HB1.out]
          exact P3.out.top HM2.out A' c' l (L3.out.mod HM2.out (fun i cs hc => P3.out.ne_lit hc)) HF.out (by have := HN.out; omega) (by
            have := Blk.set_ (Blk.set_ P3.out.blk 4 (.int .i64 n)) 5 (.slice A' n c')
            rw [HN.out] at this ⊢
            simpa [RfC] using this)
        · have HB1 : Hid (bestM m l = m) := Lib.hid (by unfold bestM; rw [if_neg (show ¬ m.bn < (l.length : Int) by omega)])
          have HX1 := Lib.hid (show ¬ m.tn < (l.length : Int) ∧ ¬ m.bn < (l.length : Int) by omega)
          clear hnn
          go_wp2
          go_ret3
          refine ⟨by rw [HE.out, ← HN.out]; rfl, r, ?_, rfl, rfl, Frs.refl _ _, M3.out⟩
          rw [HS.out, HT1.out, HB1.out]
          exact P3.out
  · have hf : mayB m.saved.length l = false := by simpa using hb
    have HE := Lib.hid hf
    have HS := Lib.hid (show reachM m l = m by unfold reachM; rw [hf]; rfl)
    rw [hf] at HM
    clear hb hf
    go_enter Try.func37, Try.ntmps37
    go_wp2_with fail
    refine HM.out.mono ?_
    rintro e w1 ⟨rfl, rfl⟩
    go_wp2
    go_ret3
    exact ⟨r, by rw [HE.out]; rfl, by rw [HS.out]; exact HP.out, rfl, rfl, Frs.refl _ _, Mod.refl _ _⟩
end Go.Proofs.Ytcmicmghnmklnaa.Ph
