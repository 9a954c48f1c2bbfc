/- An arena: New, Put. Conditions: the memory, at most four million literals. -/
import Derived.Test.YtenadnmglhghiaaAh
namespace Go.Proofs.Ytenadnmglhghiaa.Ar
open Go.RowKit Go.Proofs.Ytenadnmglhghiaa.Mem Go.Proofs.Ytenadnmglhghiaa.Sl Go.Shelf
open Go.Proofs.Ytenadnmglhghiaa.FnL (enc_at below_then)
set_option linter.unusedVariables false

def limI (lim : Int) : Int := if lim < 0 then 0 else if 268435456 < lim then 268435456 else lim
set_option maxRecDepth 100000 in
theorem new_any (lim : Int) (hl : inI lim) (w : World) : Calls Try.prog 8 #[.int .i64 lim] w fun e w' => ∃ q, e = .returned (.pointer (some ⟨q.g, 0, none⟩)) ∧ AR w' w.heap.size q (limI lim) [] ∧ Below w.heap.size w w' := by
  have hmm := @run_makeMap Try.prog
  obtain ⟨W, hW⟩ : ∃ W, W = (w.alloc (.map #[] 0)).alloc (.cells #[.int .i64 (limI lim), .slice none 0 0, .map (some w.heap.size), .int .i64 0] 69) := ⟨_, rfl⟩
  have HF := Lib.hid (show AR W w.heap.size ⟨w.heap.size + 1, w.heap.size, 0, none, 0⟩ (limI lim) [] ∧ Below w.heap.size w W from by
    rw [hW]
    refine ⟨⟨?_, App.Own.nil _ _ _, (MapK.made w).below ((Below.refl _ _).alloc (Nat.le_refl _) _), fun x hx => (by cases hx), ?_, ?_, Nat.zero_le _, by simp, by simp⟩, ((Below.refl _ w).alloc (Nat.le_refl _) _).alloc (by simp) _⟩
    · have := Blk.new (w.alloc (.map #[] 0)) 69 #[.int .i64 (limI lim), .slice none 0 0, .map (some w.heap.size), .int .i64 0]
      rw [show (w.alloc (.map #[] 0)).heap.size = w.heap.size + 1 by simp] at this
      exact this
    · unfold limI; split <;> (try split) <;> omega
    · show ((0 : Nat) : Int) ≤ _
      unfold limI; split <;> (try split) <;> omega)
  have HW := Lib.hid hW
  by_cases h1 : lim < 0
  · have HL := Lib.hid (show limI lim = 0 from if_pos h1)
    go_enter Try.func8, Try.ntmps8
    go_wp2
    go_ret
    refine ⟨⟨w.heap.size + 1, w.heap.size, 0, none, 0⟩, rfl, ?_⟩
    rw [HL.out]
    have := HF.out
    rw [HW.out, HL.out] at this
    exact this
  by_cases h2 : 268435456 < lim
  · have HL := Lib.hid (show limI lim = 268435456 from (if_neg h1).trans (if_pos h2))
    go_enter Try.func8, Try.ntmps8
    go_wp2
    go_ret
    refine ⟨⟨w.heap.size + 1, w.heap.size, 0, none, 0⟩, rfl, ?_⟩
    rw [HL.out]
    have := HF.out
    rw [HW.out, HL.out] at this
    exact this
  have HL := Lib.hid (show limI lim = lim from (if_neg h1).trans (if_neg h2))
  go_enter Try.func8, Try.ntmps8
  go_wp2
  go_ret
  refine ⟨⟨w.heap.size + 1, w.heap.size, 0, none, 0⟩, rfl, ?_⟩
  rw [HL.out]
  have := HF.out
  rw [HW.out, HL.out] at this
  exact this
section
variable {w : World} {base : Nat} {q : AAd} {lim : Int} {its : List Itm}
def putM (its : List Itm) (lim id : Int) (l : List Int) (red : Bool) (lbd : Int) : Int × Int × List Itm :=
  if id < 1 ∨ 4611686018427387903 < id ∨ lbd < 0 ∨ 65535 < lbd then (0, 2, its)
  else if hasL l 0 = true then (0, 4, its)
  else if lim - 4 - sumw its < l.length then (0, 90, its)
  else ((sumw its : Nat), 0, its ++ [⟨4 + l.length, id, l, red, lbd, 0, false⟩])
theorem wpMapPut {w : World} {ops : Array Oper} {rest : List Oper} {o : Oper} {a : Act} {Q : Exit → Act → World → Prop}
    (hg : o.guard = none) (m x v : Operand) (hop : o.op = Op.mapUpdate 66 m x v) {b n : Nat} {ks : List Nat} (h : MapK w b n ks) (hm : a.eval m = .map (some b)) (k : Nat) (y : Int) (hx : a.eval x = .int .i64 (k : Nat)) (hv : a.eval v = .int .i64 y) (hk : inI k) (hy : inI y) (hn : n < maxLen)
    (hK : ∀ w', MapK w' b (n + 1) (ks ++ [k]) → Mod (fun i => i = b) w w' → wpList Try.prog ops Q rest (a.put o.dst undef) w') : wpList Try.prog ops Q (o :: rest) a w := by
  refine wpList_plain hg fun K' hK' => ?_
  obtain ⟨w', hrun, r1, r2⟩ := h.put hk hy hn
  unfold Oper.wp
  simp [execOp, hop, hm, hx, hv, hrun, Result.andThen]
  exact hK' _ _ (hK w' r1 r2)
theorem len_le {its : List Itm} (h : ∀ x, x ∈ its → IOk x) : 4 * its.length ≤ sumw its := by
  induction its with
  | nil => exact Nat.zero_le _
  | cons x t ih =>
    have := ih fun y hy => h y (by simp [hy])
    have := (h x (by simp)).wd
    rw [sumw_cons, List.length_cons]
    omega
def PutR (w : World) (base : Nat) (q : AAd) (lim : Int) (its : List Itm) (id : Int) (l : List Int) (red : Bool) (lbd : Int) (e : Ending) (w' : World) : Prop :=
  e = .returned (.tuple #[.int .i64 (putM its lim id l red lbd).1, .int .i64 (putM its lim id l red lbd).2.1]) ∧ (∃ q', q'.g = q.g ∧ AR w' base q' lim (putM its lim id l red lbd).2.2 ∧ ∀ i, mq q' i → mq q i ∨ w.heap.size ≤ i) ∧ Mod (mq q) w w'
theorem put_nil (id : Int) (A : Option Addr) (n c : Nat) (red : Bool) (lbd : Int) (w : World) : Calls Try.prog 9 #[.pointer none, .int .i64 id, .slice A n c, .bool red, .int .i64 lbd] w fun e w' => e = .returned (.tuple #[.int .i64 0, .int .i64 1]) ∧ w = w' := by
  go_enter Try.func9, Try.ntmps9
  go_wp2
  go_ret2
  exact ⟨rfl, rfl⟩
set_option maxRecDepth 100000 in
set_option maxHeartbeats 2000000 in
theorem put_any (h : AR w base q lim its) (hbw : base ≤ w.heap.size) (id : Int) (hid : inI id) (A : Option Addr) (n c : Nat) (l : List Int) (hn : n = l.length) (hr : RdV w A (LI l)) (hsep : 0 < n → ∀ b off, A = some ⟨b, off, none⟩ → ¬ mq q b) (hb : ∀ y, y ∈ l → -2147483648 ≤ y ∧ y ≤ 2147483647) (hmx : n ≤ 4000000) (red : Bool) (lbd : Int) (hl : inI lbd) :
    Calls Try.prog 9 #[.pointer (some ⟨q.g, 0, none⟩), .int .i64 id, .slice A n c, .bool red, .int .i64 lbd] w (PutR w base q lim its id l red lbd) := by
  have HC := Lib.hid (fun W (hr : RdV W A (LI l)) => contains_any A n c l hn hr hmx 0)
  have H := Lib.hid h
  by_cases hbad : id < 1 ∨ 4611686018427387903 < id ∨ lbd < 0 ∨ 65535 < lbd
  · have HE := Lib.hid (show PutR w base q lim its id l red lbd (.returned (.tuple #[.int .i64 0, .int .i64 2])) w from by
      unfold PutR
      rw [show putM its lim id l red lbd = (0, 2, its) from if_pos hbad]
      exact ⟨rfl, ⟨q, rfl, h, fun i hi => .inl hi⟩, Mod.refl _ _⟩)
    clear h hr hb hn HC H hsep
    by_cases p1 : id < 1
    · clear hbad
      go_enter Try.func9, Try.ntmps9
      go_wp2
      go_ret2
      exact HE.out
    by_cases p2 : 4611686018427387903 < id
    · clear hbad
      go_enter Try.func9, Try.ntmps9
      go_wp2
      go_ret2
      exact HE.out
    by_cases p3 : lbd < 0
    · clear hbad
      go_enter Try.func9, Try.ntmps9
      go_wp2
      go_ret2
      exact HE.out
    have p4 : 65535 < lbd := by omega
    clear hbad
    go_enter Try.func9, Try.ntmps9
    go_wp2
    go_ret2
    exact HE.out
  have p1 : ¬ id < 1 := by omega
  have p2 : ¬ 4611686018427387903 < id := by omega
  have p3 : ¬ lbd < 0 := by omega
  have p4 : ¬ 65535 < lbd := by omega
  by_cases h0 : hasL l 0 = true
  · have HE := Lib.hid (show PutR w base q lim its id l red lbd (.returned (.tuple #[.int .i64 0, .int .i64 4])) w from by
      unfold PutR
      rw [show putM its lim id l red lbd = (0, 4, its) from (if_neg hbad).trans (if_pos h0)]
      exact ⟨rfl, ⟨q, rfl, h, fun i hi => .inl hi⟩, Mod.refl _ _⟩)
    have HC0 := Lib.hid (HC.out w hr)
    rw [h0] at HC0
    clear h hr hb hn HC H hsep hbad h0
    go_enter Try.func9, Try.ntmps9
    go_wp2_with fail
    refine HC0.out.mono ?_
    rintro e w1 ⟨rfl, rfl⟩
    go_wp2
    go_ret2
    exact HE.out
  have h0' : hasL l 0 = false := by simpa using h0
  have HC0 := Lib.hid (HC.out w hr)
  rw [h0'] at HC0
  have hl0 := h.l0
  have hl1 := h.l1
  have c0 : w.cell? ⟨q.g, 0, none⟩ = some (.int .i64 lim) := h.blk.cell 0
  have c1 : w.cell? ⟨q.g, 1, none⟩ = some (.slice q.A (sumw its) q.c) := h.blk.cell 1
  have e0 : IntKind.i64.wrap (lim - 4) = lim - 4 := IntWalk.i64_in _ (by omega)
  have e0' : IntKind.i64.wrap (lim - 4 - sumw its) = lim - 4 - sumw its := IntWalk.i64_in _ (by omega)
  by_cases hfull : lim - 4 - sumw its < n
  · have HE := Lib.hid (fun w' (hb : Below w.heap.size w w') => show PutR w base q lim its id l red lbd (.returned (.tuple #[.int .i64 0, .int .i64 90])) w' from by
      unfold PutR
      rw [show putM its lim id l red lbd = (0, 90, its) from ((if_neg hbad).trans (if_neg h0)).trans (if_pos (by omega))]
      exact ⟨rfl, ⟨q, rfl, h.below hb, fun i hi => .inl hi⟩, Mod.none_ hb _⟩)
    clear h hr hb hn HC H hsep hbad h0 h0'
    generalize sumw its = s at *
    go_enter Try.func9, Try.ntmps9
    go_wp2_with fail
    refine HC0.out.mono ?_
    rintro e w1 ⟨rfl, rfl⟩
    go_wp2_with fail
    go_quiet (fail)
    go_wp2
    go_ret2
    exact HE.out _ (belowN (Below.refl _ _) _)
  obtain ⟨ilo, hilo⟩ : ∃ i, i = id % 4294967296 := ⟨_, rfl⟩
  obtain ⟨ihi, hihi⟩ : ∃ i, i = id / 4294967296 := ⟨_, rfl⟩
  obtain ⟨F, hF⟩ : ∃ F : Int, F = 4 * (n : Int) + (if red then 2 else 0) := ⟨_, rfl⟩
  have HX := Lib.hid (show enc ⟨4 + l.length, id, l, red, lbd, 0, false⟩ = [F, ilo, ihi, lbd * 65536] ++ l.map u32 from by
    unfold enc hdI
    dsimp only
    rw [show 4 + l.length - 4 - l.length = 0 by omega, ← hn, hF, hilo, hihi]
    simp)
  have HFN := Lib.hid (fun W A' c' (hp : PuR w W base q lim its ([F, ilo, ihi, lbd * 65536] ++ l.map u32) A' c') W2 (hmp : MapK W2 q.b (q.nn + 1) (refs its ++ [sumw its])) (hm : Mod (fun i => i = q.b) W W2) => show PutR w base q lim its id l red lbd (.returned (.tuple #[.int .i64 (sumw its : Nat), .int .i64 0])) W2 from by
    unfold PutR
    rw [show putM its lim id l red lbd = (((sumw its : Nat) : Int), (0 : Int), its ++ [⟨4 + l.length, id, l, red, lbd, 0, false⟩]) from ((if_neg hbad).trans (if_neg h0)).trans (if_neg (by omega))]
    have hlen : ([F, ilo, ihi, lbd * 65536] ++ l.map u32).length = 4 + l.length := by simp; omega
    have hsw : sumw (its ++ [⟨4 + l.length, id, l, red, lbd, 0, false⟩]) = sumw its + ([F, ilo, ihi, lbd * 65536] ++ l.map u32).length := by rw [sumw_append, sumw_one, hlen]
    refine ⟨rfl, ⟨⟨q.g, q.b, q.nn + 1, A', c'⟩, rfl, ?_, fun i hi => ?_⟩, hp.m.trans hm fun i _ e => .inr (.inl e)⟩
    rotate_left
    · rcases hi with e | e | e
      · exact .inl (.inl e)
      · exact .inl (.inr (.inl e))
      · exact (hp.at_ i e).imp (fun e => .inr (.inr e)) (fun e => e)
    refine ⟨?_, ?_, ?_, fun x hx => ?_, h.l0, ?_, by rw [List.length_append]; have := h.nb; show q.nn + 1 ≤ its.length + 1; omega, h.gb, h.bb⟩
    · rw [hsw, waste_append, waste_one]
      have := hp.blk.mod hm (fun e => hp.mp.ne hp.blk e)
      simpa [wst] using this
    · rw [hsw, flat_append, flat_one, HX.out]
      exact hp.own.mod hm (fun i _ e e2 => Own.ne_map hp.own hp.mp e e2)
    · rw [refs_snoc]; exact hmp
    · rcases List.mem_append.1 hx with hx | hx
      · exact h.ok x hx
      · obtain rfl := List.mem_singleton.1 hx
        exact ⟨Nat.le_refl _, by show 1 ≤ id ∧ id ≤ _; omega, hb, by show 0 ≤ lbd ∧ lbd ≤ _; omega, by show (0 : Int) ≤ 0 ∧ (0 : Int) ≤ 65535; decide⟩
    · rw [sumw_append, sumw_one]; show ((sumw its + (4 + l.length) : Nat) : Int) ≤ lim; omega)
  have HP0 := Lib.hid (PuR.start h)
  have hiw : 0 ≤ id ∧ id < 4611686018427387904 := by omega
  have ei1 : IntKind.u32.wrap id = ilo := by rw [IntKind.wrap_u32, hilo]
  have ei2 : IntKind.u32.wrap (id / 4294967296) = ihi := by rw [w32 _ (by omega) (by omega), hihi]
  have ef1 : IntKind.u32.wrap (n : Int) = n := w32 _ (by omega) (by omega)
  have ef2 : IntKind.u32.wrap ((n : Int) * 4) = n * 4 := w32 _ (by omega) (by omega)
  have eb1 : IntKind.u32.wrap lbd = lbd := w32 _ (by omega) (by omega)
  have eb2 : IntKind.u32.wrap (lbd * 65536) = lbd * 65536 := w32 _ (by omega) (by omega)
  have HBW := Lib.hid hbw
  have HR := Lib.hid hr
  have HSP := Lib.hid hsep
  have HN := Lib.hid hn
  have HBB := Lib.hid hb
  have hsn : sumw its + 4 + n ≤ 268435456 := by omega
  have H4 := Lib.hid (show q.nn ≤ 268435456 from by have := len_le h.ok; have := h.nb; omega)
  clear h hr hb hn HC H hsep hbad h0 h0' hilo hihi hbw
  have hF1 : (if red then bits .or .u32 ((n : Int) * 4) 2 else (n : Int) * 4) = F := by
    rw [hF]
    split
    · rw [or32 2 _ _ (by omega) (by omega) (by omega) (by omega) (by omega) (by omega)]; omega
    · omega
  clear hF
  rcases red with _ | _
  case' false => rw [if_neg (by decide)] at hF1
  case' true => rw [if_pos rfl] at hF1
  all_goals
    have HF1 := Lib.hid hF1
    go_enter Try.func9, Try.ntmps9
    go_wp2_with fail
    refine HC0.out.mono ?_
    rintro e w1 ⟨rfl, rfl⟩
    go_wp2_with fail
    go_quiet (fail)
    have HP1 := Lib.hid (HP0.out.later (belowN (Below.refl _ _) nq))
    generalize w.drewN nq = W0 at *
    have hsz : base ≤ W0.heap.size := Nat.le_trans HBW.out HP1.out.m.size
    have c2 : W0.cell? ⟨q.g, 1, none⟩ = some (.slice q.A (sumw its) q.c) := by have := HP1.out.blk.cell 1; simpa using this
    have c4 : W0.cell? ⟨q.g, 2, none⟩ = some (.map (some q.b)) := HP1.out.blk.cell 2
    clear c0 c1
    go_wp2_with (at_builtin; refine wpAppWat rfl _ _ rfl base q.A (sumw its) q.c (flat its ++ []) rfl (by have := HP1.out.own; simpa using this.alloc _) W0.heap.size 0 4 4 [F, ilo, ihi, lbd * 65536] rfl rfl (new_rd W0 (UZ [F, ilo, ihi, lbd * 65536]) _) (by omega) (by simp; omega) (sumw its + 4) rfl ?_; intro A3 c3 w3 hO3 hm3 ha3; have HP3 := Lib.hid (HP1.out.step hO3 hm3 ha3 rfl); have hg3 := HP1.out.grown hm3; have f3 := hg3.frozen 1; have d3 := hg3.cell 1; clear hO3 hm3 ha3 hg3)
    have HP4 := Lib.hid (show PuR w (w3.setCell ⟨q.g, 1, none⟩ (.slice A3 (sumw its + 4) c3)) base q lim its ([F, ilo, ihi, lbd * 65536] ++ (l.take 0).map u32) A3 c3 from HP3.out)
    clear HP3 HP1 HP0 d3 f3 c2 c4
    go_loopw [78] (fun i wr => ∃ (k : Nat) (A' : Option Addr) (c' : Nat), k ≤ n ∧ i = .int .i64 k ∧ PuR w wr base q lim its ([F, ilo, ihi, lbd * 65536] ++ (l.take k).map u32) A' c') (fun i _ => n - (intOf i).toNat)
    case atStart => exact ⟨0, A3, c3, Nat.zero_le _, rfl, HP4.out⟩
    case round =>
      clear HP4
      obtain ⟨k, A', c', hk, rfl, hp⟩ := hrel
      have HP := Lib.hid hp
      have hbs : base ≤ wr.heap.size := Nat.le_trans HBW.out hp.m.size
      by_cases hlt : k < n
      · have hkl : k < l.length := by rw [← HN.out]; exact hlt
        obtain ⟨bt, ot, eB, _, hct⟩ := RdV.at_ (HR.out.mod hp.m (HSP.out (by omega))) (enc_at (enc := Value.int .i32) hkl)
        have HS := Lib.hid (show [F, ilo, ihi, lbd * 65536] ++ (l.take (k + 1)).map u32 = ([F, ilo, ihi, lbd * 65536] ++ (l.take k).map u32) ++ [u32 l[k]] by
          rw [List.take_succ_eq_append_getElem hkl, List.map_append, List.append_assoc]; rfl)
        have hlx : ([F, ilo, ihi, lbd * 65536] ++ (l.take k).map u32).length = 4 + k := by simp; omega
        obtain ⟨xs, hxs⟩ : ∃ xs, xs = [F, ilo, ihi, lbd * 65536] ++ (l.take k).map u32 := ⟨_, rfl⟩
        rw [← hxs] at hp HP hlx HS
        have hown := hp.own
        have c2 : wr.cell? ⟨q.g, 1, none⟩ = some (.slice A' (sumw its + (4 + k)) c') := by rw [← hlx]; exact hp.blk.cell 1
        rw [hlx] at hown
        have HOW := Lib.hid hown
        have ex : IntKind.u32.wrap l[k] = u32 l[k] := by rw [IntKind.wrap_u32]; rfl
        have HLX := Lib.hid hlx
        generalize l[k]'hkl = x at *
        generalize u32 x = ux at *
        subst eB
        clear hp hlx hown hkl hxs
        have hz1 : sumw its + (4 + k) + 1 ≤ 400000000 := by omega
        go_wp2_with (at_builtin; refine wpAppWat rfl _ _ rfl base A' (sumw its + (4 + k)) c' (flat its ++ xs) rfl (HOW.out.alloc _) wr.heap.size 0 1 1 [ux] rfl rfl (new_rd wr (UZ [ux]) _) hz1 (by simp; omega) (sumw its + (4 + k) + 1) rfl ?_; intro A4 c4 w4 hO4 hm4 ha4; have HP5 := Lib.hid (HP.out.step hO4 hm4 ha4 (by rw [List.length_append, HLX.out]; rfl)); have hg4 := HP.out.grown hm4; have f4 := hg4.frozen 1; have d4 := hg4.cell 1; clear hO4 hm4 ha4 hg4)
        go_roundw
        case rel => exact ⟨k + 1, A4, c4, by omega, by go_num, by rw [HS.out]; exact HP5.out⟩
        case measure => simp [intOf]; omega
      · have HFI := Lib.hid (fun W2 hm1 hm2 => HFN.out wr A' c' (by have := HP.out; rwa [List.take_of_length_le (by rw [← HN.out]; omega)] at this) W2 hm1 hm2)
        have c4 : wr.cell? ⟨q.g, 2, none⟩ = some (.map (some q.b)) := HP.out.blk.cell 2
        have hnn : q.nn < maxLen := by have := H4.out; unfold maxLen; omega
        clear hp HFN
        go_wp2_with (at_mapUpdate; refine wpMapPut rfl _ _ _ rfl HP.out.mp rfl (sumw its) (4 + (n : Int)) rfl rfl (by unfold inI; omega) (by unfold inI; omega) hnn ?_; intro w5 hmp5 hm5; have HM5 := Lib.hid hmp5; have HD5 := Lib.hid hm5; clear hmp5 hm5)
        go_ret2
        exact HFI.out _ HM5.out HD5.out
end
end Go.Proofs.Ytenadnmglhghiaa.Ar
