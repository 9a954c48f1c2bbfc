/- Choose of the program. Conditions: the memory, at most 200 records. -/
import Derived.Test.YtcblhfjgdkbinaaJp
namespace Go.Proofs.Ytcblhfjgdkbinaa.Re
open Go.RowKit Go.Proofs.Ytcblhfjgdkbinaa.Mem Go.Proofs.Ytcblhfjgdkbinaa.Sl Go.Shelf Go.Sort Go.Proofs.Ytcblhfjgdkbinaa.Sr
open Go.Proofs.Ytcblhfjgdkbinaa.FnL (enc_at below_then)
set_option linter.unusedVariables false

def LQ (l : List Int) : List Value := l.map (Value.int .i64)
theorem LQ_len (l : List Int) : (LQ l).length = l.length := by simp [LQ]
theorem one_LQ (l : List Int) : ∀ u ∈ LQ l, u.oneCell' = true := fun u hu => by
  obtain ⟨x, _, rfl⟩ := List.mem_map.1 hu; rfl
theorem LQ_at {l : List Int} {i : Nat} (h : i < l.length) : (LQ l)[i]? = some (.int .i64 l[i]) := by
  unfold LQ; rw [List.getElem?_map, List.getElem?_eq_getElem h]; rfl
/-- An append of one id. -/
theorem wpAppQ {w : World} {ops : Array Oper} {rest : List Oper} {o : Oper} {a : Act} {Q : Exit → Act → World → Prop} (hgd : o.guard = none) (s x : Operand)
    (ho : o.op = .call { callee := .builtin .append, args := #[s, x], argTypes := #[30, 30] })
    (base : Nat) (A : Option Addr) (n c : Nat) (xs : List Int) (hs : a.eval s = .slice A n c) (hown : App.Own w base 2 A n c (LQ xs))
    (b : Nat) (c2 : Nat) (y : Int) (hx : a.eval x = .slice (some ⟨b, 0, none⟩) 1 c2) (hr : w.cell? ⟨b, 0, none⟩ = some (.int .i64 y))
    (h63 : n + 1 ≤ 4000000) (hbase : base ≤ w.heap.size)
    (h : ∀ A' c' w', App.Own w' base 2 A' (n + 1) c' (LQ (xs ++ [y])) → Mod (fun i => base ≤ i) w w' → wpList Try.prog ops Q rest (a.put o.dst (.slice A' (n + 1) c')) w') : wpList Try.prog ops Q (o :: rest) a w := by
  obtain ⟨i0, hi⟩ := Option.isSome_iff_exists.1 (show (Try.prog.info? 2).isSome = true by kernel_rfl)
  have hz : (Try.prog.info? 2).map (fun i => (i.zero, i.size, i.bytes)) = some (some (.int .i64 0), 1, 8) := by kernel_rfl
  rw [hi] at hz
  injection hz with hz
  injection hz with hz0 hz
  injection hz with hz1 hz2
  refine wpList_append_own_at w hgd s x 30 ho base 2 i0 (.int .i64 0) 1 8 Try.underlying30 hi hz0 hz1 hz2 rfl (by decide) (.slice A n c) n (LQ xs) hs hown.own ⟨b, 0, none⟩ 1 c2 (LQ [y]) hx rfl (fun j u hj => ?_) (one_LQ _) (by unfold maxLen; omega) (by omega) hbase (fun v' w' h1 h2 h3 h4 => ?_)
  · rcases j with _ | j
    · cases hj
      rw [Go.WideShapes.add_plain]
      exact hr
    · cases hj
  · obtain ⟨A', c', rfl, hO⟩ := App.Own.of h1
    exact h A' c' w' (by rw [LQ, List.map_append]; exact hO) ((Mod.grown h2).mono fun i _ e => hown.block e)
set_option maxHeartbeats 1000000 in
theorem index_nil (b : Nat) (w : World) : Calls Try.prog 23 #[.slice none 0 0, delV b] w fun e w' => e = .returned (.int .i64 (-1)) ∧ w = w' := by
  go_enter Try.func23, Try.ntmps23
  go_wp2
  go_loopw [8] (fun vi wr => vi = .int .i64 0 ∧ wr = w) (fun vi _ => 0)
  case atStart => exact ⟨rfl, rfl⟩
  case round =>
    obtain ⟨rfl, rfl⟩ := hrel
    go_wp2
    go_ret
    exact ⟨rfl, rfl⟩
theorem delete_nil (b : Nat) (w : World) : Calls Try.prog 14 #[.slice none 0 0, delV b] w fun e w' => e = .returned (.slice none 0 0) ∧ w = w' := by
  have HI := Lib.hid (index_nil b w)
  go_enter Try.func14, Try.ntmps14
  go_wp2_with fail
  refine HI.out.mono ?_
  rintro e w1 ⟨rfl, rfl⟩
  go_wp2
  go_ret
  exact ⟨rfl, rfl⟩
theorem insertion_nil (w : World) : Calls Try.prog 29 #[.slice none 0 0, .int .i64 0, .int .i64 0, cmpV] w fun e w' => e = .returned (.tuple #[]) ∧ w = w' := by
  go_enter Try.func29, Try.ntmps29
  go_wp2
  go_loopw [8] (fun vi wr => vi = .int .i64 1 ∧ wr = w) (fun vi _ => 0)
  case atStart => exact ⟨by first | rfl | go_num, rfl⟩
  case round =>
    obtain ⟨rfl, rfl⟩ := hrel
    go_wp2
    go_end0
    exact ⟨rfl, rfl⟩
theorem stable_nil (w : World) : Calls Try.prog 24 #[.slice none 0 0, .int .i64 0, cmpV] w fun e w' => e = .returned (.tuple #[]) ∧ w = w' := by
  have HI := Lib.hid (insertion_nil w)
  go_enter Try.func24, Try.ntmps24
  go_wp2
  go_loopw [7, 8] (fun va vb wr => va = .int .i64 0 ∧ vb = .int .i64 20 ∧ wr = w) (fun va _ _ => 0)
  case atStart => exact ⟨rfl, rfl, rfl⟩
  case round =>
    obtain ⟨rfl, rfl, rfl⟩ := hrel
    go_wp2_with fail
    refine HI.out.mono ?_
    rintro e w1 ⟨rfl, rfl⟩
    go_wp2
    go_loopw [6] (fun vs wr2 => vs = .int .i64 20 ∧ wr2 = wr) (fun vs _ => 0)
    case atStart => exact ⟨rfl, rfl⟩
    case round =>
      obtain ⟨rfl, rfl⟩ := hrel
      go_wp2
      go_end0
      exact ⟨rfl, rfl⟩
theorem sort_nil (w : World) : Calls Try.prog 18 #[.slice none 0 0, cmpV] w fun e w' => e = .returned (.tuple #[]) ∧ w = w' := by
  have HI := Lib.hid (stable_nil w)
  go_enter Try.func18, Try.ntmps18
  go_wp2_with fail
  refine HI.out.mono ?_
  rintro e w1 ⟨rfl, rfl⟩
  go_wp2
  go_end0
  exact ⟨rfl, rfl⟩
/-- What Choose leaves. -/
def ChoR (w : World) (ids : List Int) (er : Int) (e : Ending) (w' : World) : Prop := ∃ A c, e = .returned (.tuple #[.slice A ids.length c, .int .i64 er]) ∧ App.Own w' w.heap.size 2 A ids.length c (LQ ids) ∧ Below w.heap.size w w'
def okPart (p : Int) : Prop := 0 ≤ p ∧ p ≤ 100
theorem choose_bad {w : World} (A : Option Addr) (n c : Nat) (gl part : Int) (h : ¬ okPart part) : Calls Try.prog 8 #[.slice A n c, .int .i64 gl, .int .i64 part] w (ChoR w [] 2) := by
  have HF := Lib.hid (show ChoR w [] 2 (.returned (.tuple #[.slice none 0 0, .int .i64 2])) (w.alloc (.cells #[.int .i64 gl] 3)) from ⟨none, 0, rfl, App.Own.nil _ _ _, (Below.refl _ _).alloc (Nat.le_refl _) _⟩)
  rcases (show part < 0 ∨ (¬ part < 0 ∧ 100 < part) by unfold okPart at h; omega) with h1 | ⟨h1, h2⟩
  · clear h
    go_enter Try.func8, Try.ntmps8
    go_wp2
    go_ret2
    exact HF.out
  · clear h
    go_enter Try.func8, Try.ntmps8
    go_wp2
    go_ret2
    exact HF.out
/-- The row of those that go, in a block or nil; then Choose's own loop. -/
theorem idsR_snoc {l : List Rc} {i : Nat} (h : i < l.length) : idsR (l.take (i + 1)) = idsR (l.take i) ++ [l[i]!.id] := by
  unfold idsR
  rw [List.take_succ_eq_append_getElem h, List.map_append, getElem!_pos l i h]; rfl
set_option maxRecDepth 100000 in
set_option maxHeartbeats 4000000 in
theorem choose_ok {w : World} (A : Option Addr) (c : Nat) (l : List Rc) (gl part : Int) (hr : RdV w A (RCs l)) (hnil : A = none → l = []) (hl : l.length ≤ 1000) (hp : okPart part) :
    Calls Try.prog 8 #[.slice A l.length c, .int .i64 gl, .int .i64 part] w (ChoR w (idsR (chosen l gl part)) 0) := by
  obtain ⟨W, hW⟩ : ∃ W, W = (w.alloc (.cells #[.int .i64 gl] 3)) := ⟨_, rfl⟩
  have HBW := Lib.hid (show Below w.heap.size w W by rw [hW]; exact (Below.refl _ _).alloc (Nat.le_refl _) _)
  have HX := Lib.hid (show Blk W w.heap.size 3 #[.int .i64 gl] by rw [hW]; exact Blk.new _ _ _)
  have HWE := Lib.hid hW
  have HC := Lib.hid (show ∀ W', W' = W → Calls Try.prog 15 #[.slice A l.length c] W' fun e w' => RV w' W'.heap.size l e ∧ Below W'.heap.size W' w' from fun W' e => by
    subst e
    exact clone_any A c l (hr.below HBW.out) hnil (by omega))
  have HSZ := Lib.hid (show w.heap.size < W.heap.size from HX.out.lt)
  clear hr hnil hW
  have p1 : ¬ part < 0 := by unfold okPart at hp; omega
  have p2 : ¬ 100 < part := by unfold okPart at hp; omega
  clear hp
  go_enter Try.func8, Try.ntmps8
  go_wp2_with fail
  refine (HC.out _ HWE.out.symm).mono ?_
  rintro e w1 ⟨⟨hl0, rfl⟩ | ⟨g, cg, rfl, hg1, hg2, hg3, hK⟩, hb1⟩
  · have HB1 := Lib.hid (show Below w.heap.size w w1 from below_then HBW.out (by rw [HWE.out]; exact hb1) HBW.out.size)
    have HD := Lib.hid (delete_nil w.heap.size w1)
    have HS := Lib.hid (sort_nil w1)
    have HF := Lib.hid (show ChoR w (idsR (chosen l gl part)) 0 (.returned (.tuple #[.slice none 0 0, .int .i64 0])) w1 from by
      rw [hl0]
      have : idsR (chosen [] gl part) = [] := by unfold chosen idsR; simp [srt]
      rw [this]
      exact ⟨none, 0, rfl, App.Own.nil _ _ _, HB1.out⟩)
    clear hb1 hl0 HC
    go_wp2_with fail
    refine HD.out.mono ?_
    rintro e w2 ⟨rfl, rfl⟩
    go_wp2_with fail
    refine HS.out.mono ?_
    rintro e w2 ⟨rfl, rfl⟩
    have k1 : (0 : Int) * part / 100 = 0 := by omega
    go_wp2
    go_loopw [9, 32] (fun vo vi wr => vo = .slice none 0 0 ∧ vi = .int .i64 0 ∧ wr = w1) (fun vo vi _ => 0)
    case atStart => exact ⟨rfl, rfl, rfl⟩
    case round =>
      obtain ⟨rfl, rfl, rfl⟩ := hrel
      go_wp2
      go_ret2
      exact HF.out
  · have HB1 := Lib.hid (show Below w.heap.size w w1 from below_then HBW.out (by rw [HWE.out]; exact hb1) HBW.out.size)
    have hWg : W.heap.size ≤ g := by rw [HWE.out]; exact hg1
    have HCL := Lib.hid (show w1.cell? ⟨w.heap.size, 0, none⟩ = some (.int .i64 gl) from ((show Below W.heap.size W w1 by rw [HWE.out]; exact hb1).cell (p := ⟨w.heap.size, 0, none⟩) HSZ.out).trans (HX.out.cell 0))
    have HD := Lib.hid (delete_any l l.length cg g w.heap.size gl hK rfl hg2 (by omega) HCL.out (Nat.lt_of_lt_of_le HSZ.out (by rw [HWE.out]; exact hb1.size)) (by have := HSZ.out; omega))
    have HGW := Lib.hid (show w.heap.size ≤ g by have := HSZ.out; omega)
    have HG1 := Lib.hid hK.2
    clear hK hb1 hg1 hWg HC HCL HX
    have hfl : (l.filter (goF gl)).length ≤ l.length := List.length_filter_le _ _
    obtain ⟨fl, hfe⟩ : ∃ fl, fl = l.filter (goF gl) := ⟨_, rfl⟩
    have HCH := Lib.hid (show chosen l gl part = (srt fl).take ((fl.length : Int) * part / 100).toNat by rw [hfe]; rfl)
    have HUN := Lib.hid (show ∀ x, x ∈ fl → x.locked = false from fun x hx => by rw [hfe] at hx; exact goF_un (List.mem_filter.1 hx).2)
    rw [← hfe] at HD hfl
    clear hfe
    generalize chosen l gl part = ch at *
    obtain ⟨N, hN⟩ : ∃ N, N = fl.length := ⟨_, rfl⟩
    have HN := Lib.hid hN
    have hN1 : N ≤ 1000 := by omega
    have HDR := Lib.hid (show ∀ e w', DelR w1 g l.length cg fl e w' → e = .returned (.slice (some ⟨g, 0, none⟩) N cg) ∧ HK w' g fl.toArray ∧ Mod (fun k => k = g) w1 w' from fun e w' h => by rw [hN]; exact h)
    rw [← hN] at HCH
    have hNc : N ≤ cg := by omega
    clear hN hg2 hg3 hfl
    go_wp2_with fail
    refine HD.out.mono ?_
    rintro e w2 hdr
    obtain ⟨rfl, hK2, hM2⟩ := HDR.out _ _ hdr
    clear hdr HD HDR
    have HS := Lib.hid (sort_any fl.toArray N cg g hK2 (by simpa using HN.out) (by omega))
    have HB2 := Lib.hid (show Below w.heap.size w w2 from Mem.Below.then_mod HB1.out hM2 (fun i hi e => by subst e; have := HGW.out; omega) (Nat.le_refl _))
    have HG2 := Lib.hid (Nat.lt_of_lt_of_le HG1.out hM2.size)
    clear hK2 hM2 HB1 HG1
    go_wp2_with fail
    refine HS.out.mono ?_
    rintro e w3 ⟨rfl, hM3, d, hH3, hP3, hS3⟩
    have HB3 := Lib.hid (show Below w.heap.size w w3 from Mem.Below.then_mod HB2.out hM3 (fun i hi e => by subst e; have := HGW.out; omega) (Nat.le_refl _))
    have HG3 := Lib.hid (Nat.lt_of_lt_of_le HG2.out hM3.size)
    have hdl : d.toList = srt fl := sorted_is HUN.out (by rw [← HN.out]; exact hP3) (by rw [← HN.out]; exact hS3)
    obtain ⟨s, hs⟩ : ∃ s, s = srt fl := ⟨_, rfl⟩
    rw [← hs] at hdl HCH
    have hsl : s.length = N := by rw [hs, srt_len]; exact HN.out.symm
    have HH := Lib.hid (show HK w3 g s.toArray by rw [← hdl]; exact hH3)
    have HSL := Lib.hid hsl
    clear hM3 hH3 hP3 hS3 hdl hs hsl HS HB2 HG2 HUN
    obtain ⟨t, ht⟩ : ∃ t : Nat, (N : Int) * part / 100 = (t : Int) := by
      have : 0 ≤ (N : Int) * part := Int.mul_nonneg (by omega) (by omega)
      exact ⟨((N : Int) * part / 100).toNat, by omega⟩
    have hb : (N : Int) * part ≤ (N : Int) * 100 := Int.mul_le_mul_of_nonneg_left (by omega) (by omega)
    have hb0 : 0 ≤ (N : Int) * part := Int.mul_nonneg (by omega) (by omega)
    have htN : t ≤ N := by omega
    have htc : t ≤ cg := by omega
    have HCH2 := Lib.hid (show ch = s.take t by rw [HCH.out, ht]; rfl)
    have z1 : (t : Int) ≤ (cg : Int) := by omega
    have w1' : IntKind.i64.wrap ((N : Int) * part) = (N : Int) * part := by rw [IntKind.wrap_i64]; omega
    have w2' : IntKind.i64.wrap ((N : Int) * part / 100) = (t : Int) := by rw [ht, IntKind.wrap_i64]; omega
    have wt : Int.tdiv ((N : Int) * part) 100 = (t : Int) := by rw [Int.tdiv_eq_ediv_of_nonneg hb0]; exact ht
    go_wp2
    go_loopw [9, 32, 11] (fun vo vi _ wr => ∃ (i : Nat) (A : Option Addr) (ca : Nat), vo = .slice A i ca ∧ vi = .int .i64 i ∧ i ≤ t ∧ Below w.heap.size w wr ∧ HK wr g s.toArray ∧ w3.heap.size ≤ wr.heap.size ∧ App.Own wr w3.heap.size 2 A i ca (LQ (idsR (s.take i)))) (fun vo vi _ _ => t - (intOf vi).toNat)
    case atStart => exact ⟨0, none, 0, rfl, rfl, Nat.zero_le _, HB3.out, HH.out, Nat.le_refl _, App.Own.nil _ _ _⟩
    case round =>
      obtain ⟨i, A, ca, rfl, rfl, hi, hB, hK, hsz, hO⟩ := hrel
      have HBR := Lib.hid hB
      have HKR := Lib.hid hK
      have HOR := Lib.hid hO
      have HSR := Lib.hid hsz
      clear hB hK hsz hO
      by_cases hlt : i < t
      · have hz : (i : Int) < (t : Int) := by omega
        obtain ⟨q0, q1, q2, q3, q4⟩ := HKR.out.cells5 (i := i) (by have := HSL.out; simp; omega)
        obtain ⟨r, hrr⟩ : ∃ r, r = (s.toArray)[i]! := ⟨_, rfl⟩
        rw [← hrr] at q0 q1 q2 q3 q4
        have HID := Lib.hid (show idsR (s.take (i + 1)) = idsR (s.take i) ++ [r.id] from by rw [idsR_snoc (by have := HSL.out; omega), hrr, arr_get])
        clear hrr
        have HB4 := Lib.hid (show Below wr.heap.size wr ((wr.alloc (.cells #[.int .i64 r.id, .int .i64 r.lbd, .int .i64 r.size, .int .i64 r.used, .bool r.locked] 28)).alloc (.cells #[.int .i64 r.id] 2)) from ((Below.refl _ _).alloc (Nat.le_refl _) _).alloc (by simp) _)
        go_wp2_with (at_builtin; go_loud (refine wpAppQ rfl _ _ rfl w3.heap.size A i ca (idsR (s.take i)) rfl (HOR.out.below HB4.out) (wr.heap.size + 1) 1 r.id rfl (by simp) (by omega) (Nat.le_trans HSR.out HB4.out.size) ?_; intro A2 c2 w5 hO2 hM2; have HO2 := Lib.hid hO2; have HB5 := Lib.hid (show Below w3.heap.size wr w5 from Mem.Below.then_mod (HB4.out.mono HSR.out) hM2 (fun i hi e => by omega) HSR.out); clear hO2 hM2))
        go_roundw
        case rel => exact ⟨i + 1, A2, c2, rfl, by go_num, hlt, HBR.out.trans (HB5.out.mono (Nat.le_trans HB3.out.size (Nat.le_refl _))), HKR.out.of_block (HB5.out.block g HG3.out) HB5.out.size, Nat.le_trans HSR.out HB5.out.size, by rw [HID.out]; exact HO2.out⟩
        case measure => simp [intOf]; omega
      · obtain rfl : i = t := by omega
        have HF := Lib.hid (show ChoR w (idsR ch) 0 (.returned (.tuple #[.slice A i ca, .int .i64 0])) wr from by
          rw [HCH2.out]
          have hlen : (idsR (s.take i)).length = i := by unfold idsR; rw [List.length_map, List.length_take]; have := HSL.out; omega
          exact ⟨A, ca, by rw [hlen], by rw [hlen]; exact HOR.out.low HB3.out.size, HBR.out⟩)
        go_wp2
        go_ret2
        exact HF.out
end Go.Proofs.Ytcblhfjgdkbinaa.Re
