/- A heap: Bump. Conditions: the memory. -/
import Derived.Test.YtienomdennbkpaaHk
namespace Go.Proofs.Ytienomdennbkpaa.He
open Go.RowKit Go.Proofs.Ytienomdennbkpaa.Mem Go.Proofs.Ytienomdennbkpaa.Sl Go.Shelf
open Go.Proofs.Ytienomdennbkpaa.FnL (enc_at below_then)
set_option linter.unusedVariables false

abbrev MOST : Int := 1152921504606846976
def hlf (x : Int) : Int := x / 1073741824
def halfK (k : Nat) (s : List Int) : List Int := (s.take k).map hlf ++ s.drop k
theorem halfK_len (k : Nat) (s : List Int) : (halfK k s).length = s.length := by unfold halfK; simp; omega
theorem halfK_zero (s : List Int) : halfK 0 s = s := by simp [halfK]
theorem halfK_all (s : List Int) : halfK s.length s = s.map hlf := by simp [halfK]
theorem halfK_at (k : Nat) (s : List Int) (h : k < s.length) : (halfK k s).getD k 0 = s.getD k 0 := by
  unfold halfK
  rw [List.getD_eq_getElem?_getD, List.getElem?_append_right (by simp; omega)]
  simp only [List.length_map, List.length_take]
  rw [show k - min k s.length = 0 by omega]
  simp [List.getD_eq_getElem?_getD]
theorem halfK_next (k : Nat) (s : List Int) (h : k < s.length) : (halfK k s).set k (hlf (s.getD k 0)) = halfK (k + 1) s := by
  apply List.ext_getElem?
  intro i
  unfold halfK
  rw [List.getElem?_set]
  have hl : (List.map hlf (List.take k s) ++ List.drop k s).length = s.length := halfK_len k s
  by_cases hik : k = i
  · subst hik
    rw [if_pos rfl, if_pos (by rw [hl]; exact h), List.getElem?_append_left (by simp; omega)]
    simp [List.getD_eq_getElem?_getD, h]
  · rw [if_neg hik]
    rcases Nat.lt_or_ge i k with h1 | h1
    · rw [List.getElem?_append_left (by simp; omega), List.getElem?_append_left (by simp; omega)]
      simp [h1, show i < k + 1 by omega]
    · rw [List.getElem?_append_right (by simp; omega), List.getElem?_append_right (by simp; omega)]
      simp only [List.length_map, List.length_take, List.getElem?_drop]
      congr 1
      omega
theorem HR.setS {w : World} {B N : Nat} {q : HA} {l pl s : List Int} (h : HR w B N q ⟨l, pl, s⟩) {v : Nat} (hv : v ≤ N) (x : Int) :
    HR (w.setCell ⟨q.s, v, none⟩ (.int .i64 x)) B N q ⟨l, pl, s.set v x⟩ ∧ Mod (mine q) w (w.setCell ⟨q.s, v, none⟩ (.int .i64 x)) := by
  have hm : Mod (fun j => j = q.s) w (w.setCell ⟨q.s, v, none⟩ (.int .i64 x)) := Mod.setCell (S := fun j => j = q.s) (Mod.refl _ _) (p := ⟨q.s, v, none⟩) (.inl rfl) _
  have h1 := h.scr.set_ v (by rw [LZ_len]; show v < s.length; have := h.sl; have : s.length = N + 1 := this; omega) (.int .i64 x)
  rw [LZ_set] at h1
  exact ⟨⟨h.blk.mod hm h.gs, h.inn.mod hm (fun i _ e => (h.gi e).2.2), h.plr.mod hm h.ps, h1, h.ord, by show (s.set v x).length = _; rw [List.length_set]; exact h.sl, h.ap, h.bg, h.hN, h.pb⟩, hm.mono fun _ _ e => .inr (.inr (.inl e))⟩
theorem bump_nil (v by' : Int) (w : World) : Calls Try.prog 10 #[.pointer none, .int .i64 v, .int .i64 by'] w fun e w' => e = .returned (.tuple #[.bool false, .int .i64 1]) ∧ w = w' := by
  have HI := Lib.hid (wrong_nil v w)
  go_enter Try.func10, Try.ntmps10
  go_wp2_with fail
  refine HI.out.mono ?_
  rintro e w1 ⟨rfl, rfl⟩
  go_wp2
  go_ret2
  exact ⟨rfl, rfl⟩
theorem bump_bad {w : World} {B N : Nat} {q : HA} {m : HM} (h : HR w B N q m) (v y : Int) (hb : isB N v = false ∨ y < 0 ∨ MOST < y) :
    Calls Try.prog 10 #[.pointer (some ⟨q.g, 0, none⟩), .int .i64 v, .int .i64 y] w fun e w' => e = .returned (.tuple #[.bool false, .int .i64 2]) ∧ w = w' := by
  have HI := Lib.hid (wrong_any h v)
  clear h
  generalize hbb : isB N v = b at *
  clear hbb
  rcases b with _ | _
  · go_enter Try.func10, Try.ntmps10
    go_wp2_with fail
    refine HI.out.mono ?_
    rintro e w1 ⟨rfl, rfl⟩
    go_wp2
    go_ret2
    exact ⟨rfl, rfl⟩
  · have hb2 : y < 0 ∨ MOST < y := hb.resolve_left (by simp)
    clear hb
    by_cases h0 : y < 0
    · clear hb2
      go_enter Try.func10, Try.ntmps10
      go_wp2_with fail
      refine HI.out.mono ?_
      rintro e w1 ⟨rfl, rfl⟩
      go_wp2
      go_ret2
      exact ⟨rfl, rfl⟩
    · have h1 : 1152921504606846976 < y := hb2.resolve_left h0
      clear hb2
      go_enter Try.func10, Try.ntmps10
      go_wp2_with fail
      refine HI.out.mono ?_
      rintro e w1 ⟨rfl, rfl⟩
      go_wp2
      go_ret2
      exact ⟨rfl, rfl⟩
theorem kf_set (s : List Int) (v : Nat) (x : Int) {u : Int} (h : ¬ u.toNat = v) : kf (s.set v x) u = kf s u := by
  unfold kf
  rw [show (s.set v x).getD u.toNat 0 = s.getD u.toNat 0 by simp [List.getD_eq_getElem?_getD, Ne.symm h]]
def bumpS (s : List Int) (v : Nat) (y : Int) : List Int := s.set v (s.getD v 0 + y)
def bumpF (s : List Int) (v : Nat) (y : Int) : List Int := if MOST < s.getD v 0 + y then (bumpS s v y).map hlf else bumpS s v y
set_option maxRecDepth 100000 in
set_option maxHeartbeats 1000000 in
theorem bump_ok {w : World} {B N : Nat} {q : HA} {l pl s : List Int} (h : HL w B N q ⟨l, pl, s⟩) (v : Nat) (y : Int) (hv : 1 ≤ v ∧ v ≤ N) (hy : 0 ≤ y ∧ y ≤ MOST) :
    Calls Try.prog 10 #[.pointer (some ⟨q.g, 0, none⟩), .int .i64 (v : Int), .int .i64 y] w fun e w' => e = .returned (.tuple #[.bool (decide (MOST < s.getD v 0 + y)), .int .i64 0]) ∧ Next w B N q (bumpF s v y) l w' := by
  have HI := Lib.hid (wrong_any h.hr (v : Int))
  rw [show isB N (v : Int) = true from decide_eq_true ⟨by omega, by omega⟩] at HI
  have c2 : w.cell? ⟨q.g, 2, none⟩ = some (.slice (some ⟨q.s, 0, none⟩) (N + 1) q.sc) := h.hr.blk.cell 2
  have cv : w.cell? ⟨q.s, v, none⟩ = some (.int .i64 (s.getD v 0)) := h.hr.sc_ (v := v) hv.2
  have fv := h.hr.scr.frozen v
  have hsl : s.length = N + 1 := h.hr.sl
  have hsb : 0 ≤ s.getD v 0 ∧ s.getD v 0 ≤ 1152921504606846976 := h.sb (s.getD v 0) (getD_mem (l := s) (by omega))
  have hN := h.hr.hN
  have e1 : (v : Int) < (N : Int) + 1 := by omega
  have e2 : v < N + 1 := by omega
  obtain ⟨x, hx⟩ : ∃ x, x = s.getD v 0 := ⟨_, rfl⟩
  rw [← hx] at cv hsb ⊢
  have hy2 : y ≤ 1152921504606846976 := hy.2
  have hy0 := hy.1
  have e3 : IntKind.i64.wrap (x + y) = x + y := IntWalk.i64_in _ (by omega)
  obtain ⟨W1, hW1⟩ : ∃ W1, W1 = w.setCell ⟨q.s, v, none⟩ (.int .i64 (x + y)) := ⟨_, rfl⟩
  have HR1 := Lib.hid (show HR W1 B N q ⟨l, pl, bumpS s v y⟩ ∧ Mod (mine q) w W1 from by
    rw [hW1]
    unfold bumpS
    rw [← hx]
    exact h.hr.setS hv.2 (x + y))
  have z2 : W1.cell? ⟨q.g, 2, none⟩ = some (.slice (some ⟨q.s, 0, none⟩) (N + 1) q.sc) := HR1.out.1.blk.cell 2
  have zv : W1.cell? ⟨q.s, v, none⟩ = some (.int .i64 (x + y)) := by
    rw [hW1]; exact World.cell?_setCell_same _ _ _ cv
  have HW1 := Lib.hid hW1
  have SBS : ∀ z, z ∈ bumpS s v y → 0 ≤ z ∧ (z ≤ 1152921504606846976 ∨ z = x + y) := fun z hz => by
    unfold bumpS at hz
    rcases List.mem_or_eq_of_mem_set hz with hz | rfl
    · have := h.sb z hz; exact ⟨this.1, .inl this.2⟩
    · rw [← hx]; exact ⟨by omega, .inr rfl⟩
  by_cases hm : MOST < x + y
  · have hm2 : 1152921504606846976 < x + y := hm
    have HE := Lib.hid (show bumpF s v y = (bumpS s v y).map hlf ∧ decide (MOST < x + y) = true by unfold bumpF; rw [← hx, if_pos hm]; exact ⟨rfl, decide_eq_true hm⟩)
    have SB := Lib.hid (show ∀ z, z ∈ (bumpS s v y).map hlf → 0 ≤ z ∧ z ≤ 1152921504606846976 from fun z hz => by
      obtain ⟨z', hz', rfl⟩ := List.mem_map.1 hz
      have := SBS z' hz'
      unfold hlf
      omega)
    clear SBS
    clear hW1 h hm hy hx
    go_enter Try.func10, Try.ntmps10
    go_wp2_with fail
    refine HI.out.mono ?_
    rintro e w1 ⟨rfl, rfl⟩
    go_upto_region 8 with (fail)
    rw [← HW1.out]
    clear c2 cv fv HW1
    go_wp2_with fail
    go_loopw [10, 49] (fun _ i wr => ∃ (k : Nat), k ≤ N + 1 ∧ i = .int .i64 k ∧ HR wr B N q ⟨l, pl, halfK k (bumpS s v y)⟩ ∧ Mod (mine q) w wr) (fun _ i _ => N + 1 - (intOf i).toNat)
    case atStart => exact ⟨0, Nat.zero_le _, rfl, by rw [halfK_zero]; exact HR1.out.1, HR1.out.2⟩
    case round =>
      clear HR1 z2 zv
      obtain ⟨k, hk, rfl, hr, hmd⟩ := hrel
      have HRR := Lib.hid hr
      have HM := Lib.hid hmd
      clear hr hmd
      by_cases hlt : k < N + 1
      · have hlt1 : (k : Int) < (N : Int) + 1 := by omega
        have z2 : wr.cell? ⟨q.g, 2, none⟩ = some (.slice (some ⟨q.s, 0, none⟩) (N + 1) q.sc) := HRR.out.blk.cell 2
        obtain ⟨u, hu⟩ : ∃ u, u = (bumpS s v y).getD k 0 := ⟨_, rfl⟩
        have zk : wr.cell? ⟨q.s, k, none⟩ = some (.int .i64 u) := by
          rw [hu, ← halfK_at k (bumpS s v y) (by unfold bumpS; rw [List.length_set]; omega)]
          exact HRR.out.sc_ (v := k) (by omega)
        have fk := HRR.out.scr.frozen k
        have HNX := Lib.hid (show HR (wr.setCell ⟨q.s, k, none⟩ (.int .i64 (u / 1073741824))) B N q ⟨l, pl, halfK (k + 1) (bumpS s v y)⟩ ∧ Mod (mine q) w (wr.setCell ⟨q.s, k, none⟩ (.int .i64 (u / 1073741824))) from by
          have h1 := HRR.out.setS (v := k) (by omega) (hlf ((bumpS s v y).getD k 0))
          rw [halfK_next k _ (by unfold bumpS; rw [List.length_set]; omega), ← hu] at h1
          exact ⟨h1.1, HM.out.then_ h1.2⟩)
        clear hu
        go_wp2
        go_roundw
        case rel => exact ⟨k + 1, by omega, by go_num, HNX.out.1, HNX.out.2⟩
        case measure => simp [intOf]; omega
      · have hlt1 : ¬ (k : Int) < (N : Int) + 1 := by omega
        have hr := HRR.out
        rw [show k = (bumpS s v y).length by unfold bumpS; rw [List.length_set]; omega, halfK_all] at hr
        have HIN := Lib.hid (init_any hr)
        clear hr
        go_wp2_with fail
        refine HIN.out.mono ?_
        rintro e w4 ⟨rfl, l1, ⟨⟨pl1, k1⟩, k2, k3, k4⟩, k5⟩
        have HNE := Lib.hid (show Next w B N q ((bumpS s v y).map hlf) l w4 from ⟨q, ⟨l1, pl1, (bumpS s v y).map hlf⟩, ⟨k1, by show HeapF 0 l1.length _; rw [k2.length_eq]; exact k5, SB.out⟩, rfl, k2, rfl, fun _ e => .inl e, HM.out.then_ k4⟩)
        clear k1 k2 k3 k4 k5
        go_wp2
        go_ret2
        rw [HE.out.1, HE.out.2]
        exact ⟨rfl, HNE.out⟩
  · have hm2 : ¬ 1152921504606846976 < x + y := hm
    have HE := Lib.hid (show bumpF s v y = bumpS s v y ∧ decide (MOST < x + y) = false by unfold bumpF; rw [← hx, if_neg hm]; exact ⟨rfl, decide_eq_false hm⟩)
    have SB := Lib.hid (show ∀ z, z ∈ bumpS s v y → 0 ≤ z ∧ z ≤ 1152921504606846976 from fun z hz => by
      have := SBS z hz
      omega)
    clear SBS
    have z1 : W1.cell? ⟨q.g, 1, none⟩ = some (.slice (some ⟨q.p, 0, none⟩) (N + 1) q.pc) := HR1.out.1.blk.cell 1
    have zp : W1.cell? ⟨q.p, v, none⟩ = some (.int .i64 (pl.getD v 0)) := HR1.out.1.pl_ (v := v) hv.2
    by_cases hmem : (v : Int) ∈ l
    · obtain ⟨i, hi, hpl, hat⟩ := h.hr.ord.place hmem
      have hi : i < l.length := hi
      have hpl : pl.getD v 0 = (i : Int) := hpl
      rw [hpl] at zp
      have hi0 : (0 : Int) ≤ (i : Int) := by omega
      have HFX := Lib.hid (fix_any HR1.out.1 i hi (fix_ex h.hp hi fun k hk hne => by
        show vf (bumpS s v y) l k = vf s l k
        unfold vf
        refine kf_set s v _ ?_
        have hk : k < l.length := hk
        have hrg : 1 ≤ l.getD k 0 ∧ l.getD k 0 ≤ N := h.hr.ord.rg _ (getD_mem hk)
        intro e
        refine hne (h.hr.ord.inj hk hi ?_)
        show l.getD k 0 = l.getD i 0
        have hat : l.getD i 0 = (v : Int) := hat
        omega))
      clear hW1 h hm hy hx hpl hat hmem hi
      go_enter Try.func10, Try.ntmps10
      go_wp2_with fail
      refine HI.out.mono ?_
      rintro e w1 ⟨rfl, rfl⟩
      go_upto_region 8 with (fail)
      rw [← HW1.out]
      clear c2 cv fv HW1
      go_wp2_with fail
      refine HFX.out.mono ?_
      rintro e w4 ⟨rfl, l1, ⟨⟨pl1, k1⟩, k2, k3, k4⟩, k5⟩
      have HNE := Lib.hid (show Next w B N q (bumpS s v y) l w4 from ⟨q, ⟨l1, pl1, bumpS s v y⟩, ⟨k1, by show HeapF 0 l1.length _; rw [k2.length_eq]; exact k5, SB.out⟩, rfl, k2, rfl, fun _ e => .inl e, HR1.out.2.then_ k4⟩)
      clear k1 k2 k3 k4 k5
      go_wp2
      go_ret2
      rw [HE.out.1, HE.out.2]
      exact ⟨rfl, HNE.out⟩
    · rw [h.hr.ord.no v hv.2 hmem] at zp
      have HNE := Lib.hid (show Next w B N q (bumpS s v y) l W1 from ⟨q, ⟨l, pl, bumpS s v y⟩, ⟨HR1.out.1, heap_ext h.hp (fun k hk => by
        show vf (bumpS s v y) l k = vf s l k
        unfold vf
        refine kf_set s v _ ?_
        have hk : k < l.length := hk
        have hrg : 1 ≤ l.getD k 0 ∧ l.getD k 0 ≤ N := h.hr.ord.rg _ (getD_mem hk)
        intro e
        exact hmem (by rw [show (v : Int) = l.getD k 0 by omega]; exact getD_mem hk)), SB.out⟩, rfl, List.Perm.refl _, rfl, fun _ e => .inl e, HR1.out.2⟩)
      clear hW1 h hm hy hx hmem
      go_enter Try.func10, Try.ntmps10
      go_wp2_with fail
      refine HI.out.mono ?_
      rintro e w1 ⟨rfl, rfl⟩
      go_upto_region 8 with (fail)
      rw [← HW1.out]
      clear c2 cv fv HW1
      go_wp2
      go_ret2
      rw [HE.out.1, HE.out.2]
      exact ⟨rfl, HNE.out⟩
end Go.Proofs.Ytienomdennbkpaa.He
