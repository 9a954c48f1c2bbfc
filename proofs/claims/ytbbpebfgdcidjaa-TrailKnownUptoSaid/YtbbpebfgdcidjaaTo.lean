/- Trail: New, Decide, Assign: what they answer and leave. Conditions: the bounds TOk, the memory. -/
import Derived.Test.YtbbpebfgdcidjaaTn
import Derived.Laws.MakeOwn
import Derived.Deep.AppendLies
namespace Go.Proofs.Ytbbpebfgdcidjaa.Ta
open Go.RowKit Go.Proofs.Ytbbpebfgdcidjaa.Mem Go.Proofs.Ytbbpebfgdcidjaa.Sl Go.Proofs.Ytbbpebfgdcidjaa.Cl Go.Proofs.Ytbbpebfgdcidjaa.App Go.Shelf
open Go.Proofs.Ytbbpebfgdcidjaa.FnL (enc_at below_then)
set_option linter.unusedVariables false

theorem mayE_zero {m : TM} {l r : Int} (h : mayE m l r = 0) : l ≠ 0 ∧ varI l ≤ m.N ∧ -1 ≤ r ∧ (m.sp (varI l).toNat).1 ≤ 0 := by
  unfold mayE at h
  split at h
  · omega
  · rename_i h1
    split at h
    · omega
    · split at h
      · omega
      · refine ⟨fun e => h1 (.inl e), by omega, by omega, by omega⟩
theorem varI_pos {l : Int} (h : l ≠ 0) : 1 ≤ varI l := by unfold varI; split <;> omega
def newM (N : Nat) : TM := ⟨N, [], fun _ => (0, 0, 0), [], 0⟩
theorem newM_ok {N : Nat} (h : N ≤ 1048576) : TOk (newM N) :=
  ⟨h, by simp [newM], by simp [newM], fun x hx => (by cases hx), fun v _ => (by simp [newM]), fun n hn => (by cases hn), Nat.le_refl _⟩
theorem make_spots (N : Nat) (h : N ≤ 1048576) : ∃ cs : Array Value, (cs.size = 3 * (N + 1) ∧ ∀ i, i < 3 * (N + 1) → cs[i]? = some (.int .i64 0)) ∧
    ∀ W, (Instr.makeSlice 61 (.int .i64 ((N + 1 : Nat) : Int)) (.int .i64 ((N + 1 : Nat) : Int))).run Try.prog W = .ok (.slice (some ⟨W.heap.size, 0, none⟩) (N + 1) (N + 1)) (W.alloc (.cells cs 67)) := by
  obtain ⟨i0, hi⟩ := Option.isSome_iff_exists.1 (show (Try.prog.info? 67).isSome = true by kernel_rfl)
  have hz : (Try.prog.info? 67).map (fun i => (i.zero, i.size, i.bytes)) = some (some (.agg #[.int .i64 0, .int .i64 0, .int .i64 0]), 3, 24) := by kernel_rfl
  rw [hi] at hz
  injection hz with hz
  injection hz with hz0 hz
  injection hz with hz1 hz2
  have hcs : (Value.agg #[.int .i64 0, .int .i64 0, .int .i64 0]).cells = #[.int .i64 0, .int .i64 0, .int .i64 0] := by kernel_rfl
  refine ⟨madeCells #[.int .i64 0, .int .i64 0, .int .i64 0] ((N + 1) * 3), ⟨by rw [size_madeCells]; omega, fun i hi => ?_⟩, fun W => ?_⟩
  · have hb : i < (N + 1) * 3 := by omega
    simp only [madeCells, Array.getElem?_map]
    rw [Array.getElem?_range, if_pos hb]
    simp only [Option.map_some]
    congr 1
    show (#[Value.int .i64 0, Value.int .i64 0, Value.int .i64 0])[i % 3]! = _
    have h3 : i % 3 < 3 := Nat.mod_lt _ (by decide)
    rcases (show i % 3 = 0 ∨ i % 3 = 1 ∨ i % 3 = 2 by omega) with e | e | e <;> rw [e] <;> rfl
  · have := run_make (P := Try.prog) W _ _ i0 _ Try.underlying61 hi hz0 .i64 .i64 ((N + 1 : Nat) : Int) ((N + 1 : Nat) : Int) (by omega) (Int.le_refl _) (by rw [hz2]; omega) (by omega)
    rw [hz1, hcs, Int.toNat_natCast] at this
    exact this
theorem new_bad (v : Int) (h : v < 0 ∨ 1048576 < v) (w : World) : Calls Try.prog 8 #[.int .i64 v] w fun e w' => e = .returned (.tuple #[.pointer none, .int .i64 2]) ∧ w' = w := by
  by_cases p1 : v < 0
  · clear h
    go_enter Try.func8, Try.ntmps8
    go_wp2
    go_ret2
    exact ⟨rfl, rfl⟩
  · have p2 : 1048576 < v := by omega
    clear h
    go_enter Try.func8, Try.ntmps8
    go_wp2
    go_ret2
    exact ⟨rfl, rfl⟩
def NewR (w : World) (N : Nat) (e : Ending) (w' : World) : Prop := ∃ g q, e = .returned (.tuple #[.pointer (some ⟨g, 0, none⟩), .int .i64 0]) ∧ TrS w' w.heap.size g (newM N) q ∧ Below w.heap.size w w'
theorem new_ok (N : Nat) (h : N ≤ 1048576) (w : World) : Calls Try.prog 8 #[.int .i64 (N : Int)] w fun e w' => NewR w N e w' := by
  obtain ⟨cs, hcs, hmk⟩ := make_spots N h
  have HCS := Lib.hid hcs
  clear hcs
  have e1 : IntKind.i64.wrap ((N : Int) + 1) = ((N + 1 : Nat) : Int) := by rw [IntWalk.i64_in _ (by omega)]; omega
  have HNB := Lib.hid h
  have p1 : ¬ (N : Int) < 0 := by omega
  have p2 : ¬ 1048576 < (N : Int) := by omega
  have HFIN := Lib.hid (show TrS ((w.alloc (.cells cs 67)).alloc (.cells #[.slice none 0 0, .slice (some ⟨w.heap.size, 0, none⟩) (N + 1) (N + 1), .slice none 0 0, .int .i64 0] 63)) w.heap.size (w.heap.size + 1) (newM N) ⟨none, 0, w.heap.size, none, 0⟩ ∧
    Below w.heap.size w ((w.alloc (.cells cs 67)).alloc (.cells #[.slice none 0 0, .slice (some ⟨w.heap.size, 0, none⟩) (N + 1) (N + 1), .slice none 0 0, .int .i64 0] 63)) from by
    have hb : Blk (w.alloc (.cells cs 67)) w.heap.size 67 cs := Blk.new w _ _
    refine ⟨⟨?_, Own.nil _ _ _, Own.nil _ _ _, ⟨cs, hb.alloc _, HCS.out.1, fun v hv => ?_⟩, by omega, Nat.le_refl _⟩, ((Below.refl _ w).alloc (Nat.le_refl _) _).alloc (by simp) _⟩
    · have := Blk.new (w.alloc (.cells cs 67)) 63 #[.slice none 0 0, .slice (some ⟨w.heap.size, 0, none⟩) (N + 1) (N + 1), .slice none 0 0, .int .i64 0]
      simpa [newM] using this
    · have hv : v ≤ N := hv
      exact ⟨HCS.out.2 _ (by omega), HCS.out.2 _ (by omega), HCS.out.2 _ (by omega)⟩)
  generalize N + 1 = M at *
  go_enter Try.func8, Try.ntmps8
  go_wp2
  go_ret2
  exact ⟨_, _, by first | rfl | simp, HFIN.out.1, HFIN.out.2⟩
def asgM (m : TM) (l r : Int) : TM := if mayE m l r = 0 then putM m l r else m
def lvM (m : TM) : TM := { m with starts := m.starts ++ [m.lits.length] }
def decM (m : TM) (l : Int) : TM := if mayE m l (-1) = 0 then putM (lvM m) l (-1) else m
theorem assign_any {base g : Nat} {m : TM} {q : TQ} {w : World} (h : TrS w base g m q) (ok : TOk m) (hln : m.lits.length ≤ 999999) (l r : Int) (h0 : -2147483648 ≤ l) (h1 : l ≤ 2147483647) :
    Calls Try.prog 26 #[.pointer (some ⟨g, 0, none⟩), .int .i32 l, .int .i64 r] w fun e w' => e = .returned (.int .i64 (mayE m l r)) ∧ ∃ q', TrS w' base g (asgM m l r) q' ∧ TStep g q q' w w' := by
  have HC := Lib.hid (may_any h ok l r h0 h1)
  have H := Lib.hid h
  have OK := Lib.hid ok
  have HZ := Lib.hid (mayE_zero (m := m) (l := l) (r := r))
  have HD := Lib.hid (show asgM m l r = if mayE m l r = 0 then putM m l r else m from rfl)
  clear h ok
  generalize mayE m l r = er at *
  go_enter Try.func26, Try.ntmps26
  go_wp2_with fail
  refine HC.out.mono ?_
  rintro e w1 ⟨rfl, hb1⟩
  have HB1 := Lib.hid hb1
  have H1 := Lib.hid (H.out.below hb1)
  clear hb1 HC
  by_cases p : er = 0
  · have HDE := Lib.hid (HD.out.trans (if_pos p))
    have hz := HZ.out p
    have HP := Lib.hid (put_any H1.out OK.out hln l r h0 h1 (varI_pos hz.1) hz.2.1)
    clear hz HD HZ
    subst p
    go_wp2_with fail
    refine HP.out.mono ?_
    rintro e w2 ⟨rfl, q', h2, h3⟩
    have H2 := Lib.hid h2
    have H3 := Lib.hid h3
    clear h2 h3
    go_wp2
    go_ret
    exact ⟨rfl, q', by rw [HDE.out]; exact H2.out, (TStep.of_below g q HB1.out).trans H3.out⟩
  · have HDE := Lib.hid (HD.out.trans (if_neg p))
    have hp : (er == 0) = false := by simpa using p
    go_wp2
    go_ret
    exact ⟨rfl, q, by rw [HDE.out]; exact H1.out, TStep.of_below g q HB1.out⟩
theorem assign_nil (l r : Int) (w : World) : Calls Try.prog 26 #[.pointer none, .int .i32 l, .int .i64 r] w fun e w' => e = .returned (.int .i64 1) ∧ w' = w := by
  have HC := Lib.hid (may_nil l r w)
  go_enter Try.func26, Try.ntmps26
  go_wp2_with fail
  refine HC.out.mono ?_
  rintro e w1 ⟨rfl, rfl⟩
  go_wp2
  go_ret
  exact ⟨rfl, rfl⟩
theorem decide_nil (l : Int) (w : World) : Calls Try.prog 25 #[.pointer none, .int .i32 l] w fun e w' => e = .returned (.int .i64 1) ∧ w' = w := by
  have HC := Lib.hid (may_nil l (-1) w)
  go_enter Try.func25, Try.ntmps25
  go_wp2_with fail
  refine HC.out.mono ?_
  rintro e w1 ⟨rfl, rfl⟩
  go_wp2
  go_ret
  exact ⟨rfl, rfl⟩
theorem lvM_ok {m : TM} (ok : TOk m) (h : m.starts.length ≤ 999999) : TOk (lvM m) :=
  ⟨ok.N, ok.ln, by simp [lvM]; omega, ok.lb, ok.sp, fun n hn => by
    rcases List.mem_append.1 hn with hn | hn
    · exact ok.st n hn
    · obtain rfl := List.mem_singleton.1 hn; exact Nat.le_refl _, ok.hd⟩
theorem stepAppN {w : World} {ops : Array Oper} {o : Oper} {a : Act} {K : Act → World → Prop} {Q : Exit → Act → World → Prop} {E : Prop} (hgd : o.guard = none) (s x : Operand)
    (ho : o.op = .call { callee := .builtin .append, args := #[s, x], argTypes := #[31, 31] })
    (base : Nat) (A : Option Addr) (n c : Nat) (xs : List Nat) (hs : a.eval s = .slice A n c) (hown : Own w base 3 A n c (LN xs))
    (g1 : Nat) (y : Nat) (hx : a.eval x = .slice (some ⟨g1, 0, none⟩) 1 1) (hc : w.cell? ⟨g1, 0, none⟩ = some (.int .i64 (y : Int)))
    (h63 : n ≤ 4000000) (hbase : base ≤ w.heap.size) (H : Nat) (hH : w.heap.size = H)
    (h : ∀ g c' w', Own w' base 3 (some ⟨g, 0, none⟩) (n + 1) c' (LN (xs ++ [y])) → Mem.Mod (fun i => A = some ⟨i, 0, none⟩) w w' → (∀ i, (some ⟨g, 0, none⟩ : Option Addr) = some ⟨i, 0, none⟩ → A = some ⟨i, 0, none⟩ ∨ i = H) → K (a.put o.dst (.slice (some ⟨g, 0, none⟩) (n + 1) c')) w') :
    if Region.wanted o (yielded ops a.tmps) = true then Oper.wp Try.prog o a w K Q else E := by
  obtain ⟨i0, hi⟩ := Option.isSome_iff_exists.1 (show (Try.prog.info? 3).isSome = true by kernel_rfl)
  have hz : (Try.prog.info? 3).map (fun i => (i.zero, i.size, i.bytes)) = some (some (.int .i64 0), 1, 8) := by kernel_rfl
  rw [hi] at hz
  injection hz with hz
  injection hz with hz0 hz
  injection hz with hz1 hz2
  refine step_append_lies w hgd s x 31 ho base 3 i0 (.int .i64 0) 1 8 Try.underlying31 hi hz0 hz1 hz2 rfl (by decide) (.slice A n c) n (LN xs) hs hown.own ⟨g1, 0, none⟩ 1 1 (LN [y]) hx rfl (fun j u hj => ?_) one_LN (by decide) (by unfold maxLen; omega) (by omega) hbase H hH (fun g cap w' h1 h2 h3 h4 => ?_)
  · rcases j with _ | j
    · cases hj; exact hc
    · simp [LN] at hj
  · obtain ⟨A', c', e, hO⟩ := Own.of h1
    cases e
    exact h g cap w' (by rw [LN, List.map_append]; exact hO) ((Mod.grown h2).mono fun i _ e => own_mine e (Own.plain hown)) (own_where (n' := 0) (c' := 0) (n := n) (c := c) (by
      rcases h3 with h3 | h3
      · exact .inl h3.symm
      · exact .inr (by rw [h3]; rfl)) (Own.plain hown))
set_option maxRecDepth 100000 in
theorem decide_any {base g : Nat} {m : TM} {q : TQ} {w : World} (h : TrS w base g m q) (ok : TOk m) (hln : m.lits.length ≤ 999999) (hsn : m.starts.length ≤ 999999) (l : Int) (h0 : -2147483648 ≤ l) (h1 : l ≤ 2147483647) :
    Calls Try.prog 25 #[.pointer (some ⟨g, 0, none⟩), .int .i32 l] w fun e w' => e = .returned (.int .i64 (mayE m l (-1))) ∧ ∃ q', TrS w' base g (decM m l) q' ∧ TStep g q q' w w' := by
  have HC := Lib.hid (may_any h ok l (-1) h0 h1)
  have H := Lib.hid h
  have OK := Lib.hid ok
  have HZ := Lib.hid (mayE_zero (m := m) (l := l) (r := -1))
  have HD := Lib.hid (show decM m l = if mayE m l (-1) = 0 then putM (lvM m) l (-1) else m from rfl)
  clear h ok
  generalize mayE m l (-1) = er at *
  go_enter Try.func25, Try.ntmps25
  go_wp2_with fail
  refine HC.out.mono ?_
  rintro e w1 ⟨rfl, hb1⟩
  have HB1 := Lib.hid hb1
  have H1 := Lib.hid (H.out.below hb1)
  clear hb1 HC
  by_cases p : er = 0
  · have HDE := Lib.hid (HD.out.trans (if_pos p))
    have hz := HZ.out p
    have HPZ := Lib.hid (fun (w2 : World) (q2 : TQ) (h2 : TrS w2 base g (lvM m) q2) => put_any h2 (lvM_ok OK.out hsn) hln l (-1) h0 h1 (varI_pos hz.1) hz.2.1)
    clear hz HD HZ
    subst p
    go_upto_region 3 with (fail)
    have q0 : w1.cell? ⟨g, 0, none⟩ = some (.slice q.lA m.lits.length q.lc) := H1.out.blk.cell 0
    have q2 : w1.cell? ⟨g, 2, none⟩ = some (.slice q.tA m.starts.length q.tc) := H1.out.blk.cell 2
    have hbw : base ≤ w1.heap.size := Nat.le_trans H1.out.bg (Nat.le_of_lt H1.out.blk.lt)
    have HBA := Lib.hid (show Below w1.heap.size w1 (w1.alloc (.cells #[.int .i64 ((m.lits.length : Nat) : Int)] 3)).drew from (((Below.refl _ w1).alloc (Nat.le_refl _) _).drew))
    have HA := Lib.hid (H1.out.below HBA.out)
    have HSZ := Lib.hid (show (w1.alloc (.cells #[.int .i64 ((m.lits.length : Nat) : Int)] 3)).drew.heap.size = w1.heap.size + 1 by show (w1.alloc _).heap.size = _; simp)
    have HOR := Lib.hid (show RdV (w1.alloc (.cells #[.int .i64 ((m.lits.length : Nat) : Int)] 3)).drew (some ⟨w1.heap.size, 0, none⟩) (LN [m.lits.length]) from (Row.new w1 3 (LN [m.lits.length])).rd)
    have hbw1 : base ≤ ((w1.alloc (.cells #[.int .i64 ((m.lits.length : Nat) : Int)] 3)).drew).heap.size := by have := HSZ.out; omega
    have HFIN := Lib.hid (fun (A' : Option Addr) (c' : Nat) (w2 : World) (hO : Own w2 base 3 A' (m.starts.length + 1) c' (LN (m.starts ++ [m.lits.length]))) (hM : Mem.Mod (fun i => q.tA = some ⟨i, 0, none⟩) ((w1.alloc (.cells #[.int .i64 ((m.lits.length : Nat) : Int)] 3)).drew) w2) (hw : ∀ i, A' = some ⟨i, 0, none⟩ → q.tA = some ⟨i, 0, none⟩ ∨ i = w1.heap.size + 1) =>
      (show w2.cell? ⟨g, 2, none⟩ = some (.slice q.tA m.starts.length q.tc) ∧ w2.frozen? ⟨g, 2, none⟩ = false ∧ TrS (w2.setCell ⟨g, 2, none⟩ (.slice A' (m.starts.length + 1) c')) base g (lvM m) { q with tA := A', tc := c' } ∧ TStep g q { q with tA := A', tc := c' } w1 (w2.setCell ⟨g, 2, none⟩ (.slice A' (m.starts.length + 1) c')) from by
        have hb2 := HA.out.blk.mod hM HA.out.nt.1
        have hs2 := HA.out.spots.mod hM HA.out.nt.2
        have hl2 := HA.out.lits.mod hM (fun i _ e hc => HA.out.nlt i e hc)
        have hm3 : Mem.Mod (fun i => i = g) w2 (w2.setCell ⟨g, 2, none⟩ (.slice A' (m.starts.length + 1) c')) := Mem.Mod.setCell (Mem.Mod.refl (fun i => i = g) _) (p := ⟨g, 2, none⟩) (.inl rfl) _
        have hnA := Own.ne_blk hO hb2 (by decide)
        have hnL := Own.ne_blk hl2 hb2 (by decide)
        have hlen : (lvM m).starts.length = m.starts.length + 1 := by simp [lvM]
        refine ⟨hb2.cell 2, hb2.frozen 2, ⟨?_, hl2.mod hm3 (fun i _ e hi => hnL (by rw [e, hi])), ?_, hs2.mod hm3 (fun e => H.out.ng e.symm), H.out.bg, H.out.bs⟩, ?_, ?_⟩
        · rw [hlen]
          have := hb2.set_ 2 (.slice A' (m.starts.length + 1) c')
          simpa [lvM] using this
        · rw [hlen]
          exact hO.mod hm3 (fun i _ e hi => hnA (by rw [e, hi]))
        · exact ((Mem.Mod.none_ HBA.out _).then_ (hM.mono fun i _ e => .inr (.inr (.inr e)))).then_ (hm3.mono fun i _ e => .inl e)
        · rintro i hi (h | h | h | h)
          · exact .inl h
          · exact .inr (.inl h)
          · exact .inr (.inr (.inl h))
          · rcases hw i h with h | h
            · exact .inr (.inr (.inr h))
            · omega))
    have q3 : (w1.alloc (.cells #[.int .i64 ((m.lits.length : Nat) : Int)] 3)).cell? ⟨g, 2, none⟩ = some (.slice q.tA m.starts.length q.tc) := HA.out.blk.cell 2
    have q4 : (w1.alloc (.cells #[.int .i64 ((m.lits.length : Nat) : Int)] 3)).drew.cell? ⟨g, 2, none⟩ = some (.slice q.tA m.starts.length q.tc) := HA.out.blk.cell 2
    have HOC := Lib.hid (show ((w1.alloc (.cells #[.int .i64 ((m.lits.length : Nat) : Int)] 3)).drew).cell? ⟨w1.heap.size, 0, none⟩ = some (.int .i64 ((m.lits.length : Nat) : Int)) by show (w1.alloc _).cell? _ = _; simp)
    go_region_law ((refine stepAppN (by rfl) _ _ (by rfl) base q.tA m.starts.length q.tc m.starts (by rfl) HA.out.starts w1.heap.size m.lits.length (by rfl) HOC.out (by omega) hbw1 (w1.heap.size + 1) HSZ.out ?_; intro gA c' w2 hO hM hwh; obtain ⟨k5, k6, k7, k8⟩ := HFIN.out (some ⟨gA, 0, none⟩) c' w2 hO hM hwh; have HT := Lib.hid k7; have HS := Lib.hid k8; clear hO hM hwh k7 k8))
    all_goals clear q0 q2 q3 q4
    all_goals go_wp2_with fail
    all_goals refine (HPZ.out _ _ (TrS.drewN HT.out 0)).mono ?_
    all_goals rintro e w3 ⟨rfl, q', h2, h3⟩
    all_goals have H2 := Lib.hid h2
    all_goals have H3 := Lib.hid h3
    all_goals clear h2 h3 k5 k6
    all_goals go_wp2
    all_goals go_ret
    all_goals exact ⟨rfl, q', by rw [HDE.out]; exact H2.out, (TStep.of_below g q HB1.out).trans (HS.out.trans H3.out)⟩
  · have HDE := Lib.hid (HD.out.trans (if_neg p))
    have hp : (er == 0) = false := by simpa using p
    go_wp2
    go_ret
    exact ⟨rfl, q, by rw [HDE.out]; exact H1.out, TStep.of_below g q HB1.out⟩
end Go.Proofs.Ytbbpebfgdcidjaa.Ta
