/- The document's queue: Bump. Conditions: the memory, at most a million moves. -/
import Derived.Test.YtgldhnjbodmbbaaQm
import Derived.Test.YtgldhnjbodmbbaaQi
import Derived.StillTailTactics
import Derived.Lib.SliceRun
import Derived.Maps.AppendAt
namespace Go.Proofs.Ytgldhnjbodmbbaa.Qu
open Go.RowKit Go.Proofs.Ytgldhnjbodmbbaa.Mem Go.Proofs.Ytgldhnjbodmbbaa.Sl Go.Shelf
open Go.Proofs.Ytgldhnjbodmbbaa.FnL (enc_at below_then)
set_option linter.unusedVariables false

theorem drewN_add (w : World) (a b : Nat) : (w.drewN a).drewN b = w.drewN (a + b) := by simp [World.drewN, Nat.add_assoc]
def stayL (row : List Nat) (l : List Int) : List Nat := row.filter fun v => !l.contains (v : Int)
def stB (m : QM) (l : List Int) (k : Nat) : Nat → Int := stK m (mvL (m.row.take k) l) (mvL (m.row.take k) l).length
theorem mvL_next {row : List Nat} {l : List Int} {k : Nat} (hk : k < row.length) : mvL (row.take (k + 1)) l = mvL (row.take k) l ++ if l.contains ((row[k] : Nat) : Int) = true then [row[k]] else [] := by
  unfold mvL
  rw [List.take_succ_eq_append_getElem hk, List.filter_append]
  congr 1
  simp only [List.filter_cons, List.filter_nil]
theorem stayL_next {row : List Nat} {l : List Int} {k : Nat} (hk : k < row.length) : stayL (row.take (k + 1)) l = stayL (row.take k) l ++ if l.contains ((row[k] : Nat) : Int) = true then [] else [row[k]] := by
  unfold stayL
  rw [List.take_succ_eq_append_getElem hk, List.filter_append]
  congr 1
  simp only [List.filter_cons, List.filter_nil]
  cases l.contains ((row[k] : Nat) : Int) <;> rfl
theorem stB_in {m : QM} {l : List Int} {k : Nat} (hk : k < m.row.length) (h : l.contains ((m.row[k] : Nat) : Int) = true) : stB m l (k + 1) = updI (stB m l k) m.row[k] ((m.N : Int) + (m.moved + 1)) := by
  unfold stB
  rw [mvL_next hk, if_pos h]
  generalize mvL (m.row.take k) l = T
  have h2 := stK_next (m := m) (vs := T ++ [m.row[k]]) (k := T.length) (by simp)
  rw [List.length_append, List.length_singleton, h2]
  have e1 : (T ++ [m.row[k]])[T.length]'(by simp) = m.row[k] := by simp
  rw [e1]
  congr 1
  unfold stK
  funext v
  rw [List.take_append_of_le_length (Nat.le_refl _)]
theorem stB_out {m : QM} {l : List Int} {k : Nat} (hk : k < m.row.length) (h : l.contains ((m.row[k] : Nat) : Int) = false) : stB m l (k + 1) = stB m l k := by
  unfold stB
  rw [mvL_next hk, if_neg (by rw [h]; decide), List.append_nil]
theorem stB_zero (m : QM) (l : List Int) : stB m l 0 = m.st := by unfold stB; rw [List.take_zero]; exact stK_zero m _
theorem stay_is {row : List Nat} {l : List Int} : stayL row l ++ mvL row l = mvRow row (mvL row l) := by
  unfold mvRow stayL
  congr 1
  refine List.filter_congr fun v hv => ?_
  congr 1
  rw [Bool.eq_iff_iff]
  simp only [List.contains_iff_mem]
  rw [mvL_mem]
  exact ⟨fun h => ⟨hv, h⟩, fun h => h.2⟩
theorem stay_len {row : List Nat} {l : List Int} : (stayL row l).length ≤ row.length ∧ (mvL row l).length ≤ row.length ∧ (stayL row l).length + (mvL row l).length = row.length := by
  refine ⟨List.length_filter_le _ _, List.length_filter_le _ _, ?_⟩
  unfold stayL mvL
  induction row with
  | nil => rfl
  | cons v t ih => simp only [List.filter_cons]; cases l.contains (v : Int) <;> simp only [Bool.not_true, Bool.not_false, if_true, Bool.false_eq_true, if_false, List.length_cons] <;> omega
theorem LZ_arr (N : Nat) (f : Nat → Int) : LZ ((List.range (N + 1)).map f) = arr N f := by unfold LZ arr; rw [List.map_map]; rfl
/-- Append to a row of ints of one's own, and where the new slice lies. -/
theorem wpAppAt {w : World} {ops : Array Oper} {rest : List Oper} {o : Oper} {a : Act} {Q : Exit → Act → World → Prop} (hgd : o.guard = none) (s x : Operand)
    (ho : o.op = .call { callee := .builtin .append, args := #[s, x], argTypes := #[29, 29] })
    (base : Nat) (A : Option Addr) (n c : Nat) (xs : List Int) (hs : a.eval s = .slice A n c) (hown : App.Own w base 3 A n c (LZ xs))
    (b off : Nat) (m c2 : Nat) (news : List Int) (hx : a.eval x = .slice (some ⟨b, off, none⟩) m c2) (hl : m = news.length) (hr : RdV w (some ⟨b, off, none⟩) (LZ news))
    (h63 : n + m ≤ 4000000) (hbase : base ≤ w.heap.size) (r : Nat) (hrr : n + m = r)
    (h : ∀ A' c' w', App.Own w' base 3 A' r c' (LZ (xs ++ news)) → w.grownBy w' (Value.slice A n c).ownBlock → (∀ i, A' = some ⟨i, 0, none⟩ → A = some ⟨i, 0, none⟩ ∨ i = w.heap.size) → wpList Try.prog ops Q rest (a.put o.dst (.slice A' r c')) w') : wpList Try.prog ops Q (o :: rest) a w := by
  subst hrr
  obtain ⟨i0, hi⟩ := Option.isSome_iff_exists.1 (show (Try.prog.info? 3).isSome = true by kernel_rfl)
  have hz : (Try.prog.info? 3).map (fun i => (i.zero, i.size, i.bytes)) = some (some (.int .i64 0), 1, 8) := by kernel_rfl
  rw [hi] at hz
  injection hz with hz
  injection hz with hz0 hz
  injection hz with hz1 hz2
  refine wpList_append_own_at w hgd s x 29 ho base 3 i0 (.int .i64 0) 1 8 Try.underlying29 hi hz0 hz1 hz2 rfl (by decide) (.slice A n c) n (LZ xs) hs hown.own ⟨b, off, none⟩ m c2 (LZ news) hx (by simp [LZ, hl]) (fun j u hj => ?_) one_LZ (by unfold maxLen; omega) (by omega) hbase (fun v' w' h1 h2 _ h3 => ?_)
  · obtain ⟨b', off', e', _, hc'⟩ := RdV.at_ hr hj
    cases e'
    rw [Go.WideShapes.add_plain]
    exact hc'
  · obtain ⟨A', c', rfl, hO⟩ := App.Own.of h1
    refine h A' c' w' (by rw [LZ, List.map_append]; exact hO) h2 (fun i e => ?_)
    subst e
    rcases h3 with e | e
    · exact .inl (own_is hown e)
    · exact .inr (by simpa [Value.ownBlock] using e)
/-- Where Bump of the document's stands: what stays, what goes, the stamps. -/
structure BuR (w wr : World) (base g N : Nat) (mv : Int) (d : DR) (s t : List Nat) (f : Nat → Int) (A1 : Option Addr) (c1 : Nat) (A2 : Option Addr) (c2 : Nat) : Prop where
  o1 : App.Own wr w.heap.size 3 A1 s.length c1 (LZ (rowI s))
  o2 : App.Own wr w.heap.size 3 A2 t.length c2 (LZ (rowI t))
  ne : ∀ i, A1 = some ⟨i, 0, none⟩ → A2 ≠ some ⟨i, 0, none⟩
  q : RqR wr base g { d with moved := mv, st := (List.range (N + 1)).map f }
  m : Mod (mineD g d) w wr
section
variable {w wr : World} {base g N : Nat} {mv : Int} {d : DR} {s t : List Nat} {f : Nat → Int} {A1 A2 : Option Addr} {c1 c2 : Nat}
theorem rowI_snoc (s : List Nat) (v : Nat) : rowI s ++ [(v : Int)] = rowI (s ++ [v]) := by unfold rowI; rw [List.map_append]; rfl
theorem BuR.drewN (h : BuR w wr base g N mv d s t f A1 c1 A2 c2) (n : Nat) : BuR w (wr.drewN n) base g N mv d s t f A1 c1 A2 c2 := ⟨h.o1.drewN n, h.o2.drewN n, h.ne, h.q.drewN n, h.m.drewN n⟩
theorem BuR.stay (hd : RqR w base g d) (h : BuR w wr base g N mv d s t f A1 c1 A2 c2) {v : Nat} {w3 : World} {A3 : Option Addr} {c3 : Nat} {o : Obj} (hO : App.Own w3 w.heap.size 3 A3 (s.length + 1) c3 (LZ (rowI s ++ [(v : Int)]))) (hg : (wr.alloc o).grownBy w3 (Value.slice A1 s.length c1).ownBlock) (ha : ∀ i, A3 = some ⟨i, 0, none⟩ → A1 = some ⟨i, 0, none⟩ ∨ i = (wr.alloc o).heap.size) : BuR w w3 base g N mv d (s ++ [v]) t f A3 c3 A2 c2 := by
  have hm := Mod.grown hg
  refine ⟨by rw [rowI_snoc] at hO; rw [List.length_append, List.length_singleton]; exact hO, (h.o2.alloc o).mod hm (fun i _ e e2 => h.ne i (own_is h.o1 e2) e), fun i e e2 => ?_, (h.q.below ((Below.refl _ _).alloc (Nat.le_refl _) o)).mod hm (fun i hi e2 => ?_), (h.m.alloc o).trans hm (fun i hi e2 => absurd hi (Nat.not_lt_of_le (h.o1.block e2)))⟩
  · rcases ha i e with e3 | e3
    · exact h.ne i e3 e2
    · have := (own_lt h.o2 e2).2
      have hs : (wr.alloc o).heap.size = wr.heap.size + 1 := by simp
      omega
  · have h1 : mineD g d i := hi
    exact absurd (hd.minB h1).2 (Nat.not_lt_of_le (h.o1.block e2))
theorem BuR.gone (hd : RqR w base g d) (h : BuR w wr base g N mv d s t f A1 c1 A2 c2) {v : Nat} {w3 : World} {A3 : Option Addr} {c3 : Nat} {o : Obj} (hO : App.Own w3 w.heap.size 3 A3 (t.length + 1) c3 (LZ (rowI t ++ [(v : Int)]))) (hg : (wr.alloc o).grownBy w3 (Value.slice A2 t.length c2).ownBlock) (ha : ∀ i, A3 = some ⟨i, 0, none⟩ → A2 = some ⟨i, 0, none⟩ ∨ i = (wr.alloc o).heap.size) : BuR w w3 base g N mv d s (t ++ [v]) f A1 c1 A3 c3 := by
  have hm := Mod.grown hg
  refine ⟨(h.o1.alloc o).mod hm (fun i _ e e2 => h.ne i e (own_is h.o2 e2)), by rw [rowI_snoc] at hO; rw [List.length_append, List.length_singleton]; exact hO, fun i e2 e => ?_, (h.q.below ((Below.refl _ _).alloc (Nat.le_refl _) o)).mod hm (fun i hi e2 => ?_), (h.m.alloc o).trans hm (fun i hi e2 => absurd hi (Nat.not_lt_of_le (h.o2.block e2)))⟩
  · rcases ha i e with e3 | e3
    · exact h.ne i e2 e3
    · have := (own_lt h.o1 e2).2
      have hs : (wr.alloc o).heap.size = wr.heap.size + 1 := by simp
      omega
  · have h1 : mineD g d i := hi
    exact absurd (hd.minB h1).2 (Nat.not_lt_of_le (h.o2.block e2))
theorem BuR.store (hd : RqR w base g d) (h : BuR w wr base g N mv d s t f A1 c1 A2 c2) {v b : Nat} (hv : v ≤ N) (hb : d.sA = some ⟨b, 0, none⟩) (x : Int) : BuR w (wr.setCell ⟨b, v, none⟩ (.int .i64 x)) base g N mv d s t (updI f v x) A1 c1 A2 c2 := by
  have hlt := (hd.minB (i := b) (.inr (.inr hb))).2
  have h0 := h.q.s
  dsimp only at h0
  rw [hb, LZ_arr, List.length_map, List.length_range] at h0
  have h1 := h0.set_ v (by omega) (.int .i64 x)
  rw [arr_set, ← LZ_arr] at h1
  refine ⟨own_far h.o1 (fun e => ?_) _, own_far h.o2 (fun e => ?_) _, h.ne, ⟨?_, own_far h.q.r (fun e => ?_) _, by dsimp only; rw [hb, List.length_map, List.length_range]; exact h1, h.q.bg⟩, h.m.setCell (p := ⟨b, v, none⟩) (.inl (.inr (.inr hb))) _⟩
  · have := (own_lt h.o1 e).1; dsimp only at this; omega
  · have := (own_lt h.o2 e).1; dsimp only at this; omega
  · have hk := h.q.blk.far (p := ⟨b, v, none⟩) (fun e => h.q.ns (show d.sA = _ by rw [hb]; dsimp only at e; rw [e])) (.int .i64 x)
    simpa using hk
  · exact h.q.nrs b e hb
end
/-- What Bump of the document's answers and leaves. -/
def RBumpR (w : World) (base g : Nat) (m : QM) (d : DR) (l : List Int) (e : Ending) (w' : World) : Prop :=
  e = .returned (.int .i64 (bumpE m l)) ∧ ∃ d', RqR w' base g d' ∧ DInv (bumpM m l) d' ∧ (d'.rA = d.rA ∨ ∀ i, d'.rA = some ⟨i, 0, none⟩ → w.heap.size ≤ i) ∧ d'.sA = d.sA ∧ Mod (mineD g d) w w'
theorem fin_D {m : QM} {l : List Int} {d' : DR} (hw : QW m) (hz : m.st 0 = 0) (hm : m.moved ≤ 999999) (h1 : d'.row = rowI (stayL m.row l ++ mvL m.row l)) (h2 : d'.st = (List.range (m.N + 1)).map (stB m l m.row.length)) (h3 : d'.moved = m.moved + 1) : DInv (mvM m (mvL m.row l)) d' := by
  refine ⟨mvM_w hw hm (fun v hv => (mvL_mem.1 hv).1) (mvL_nodup hw.nd), by rw [h1, stay_is]; rfl, ?_, h3, ?_⟩
  · rw [h2]; unfold stB; rw [List.take_length]; rfl
  · show stK m _ _ 0 = 0
    unfold stK
    rw [if_neg (fun h => hw.zero (mvL_mem.1 (by rw [List.take_length] at h; exact List.contains_iff_mem.1 h)).1)]
    exact hz
set_option maxRecDepth 100000 in
set_option maxHeartbeats 8000000 in
theorem rbump_any {w : World} {base g : Nat} {m : QM} {d : DR} (h : RqR w base g d) (hi : DInv m d) (hmv : m.moved ≤ 999999) (B : Option Addr) (n cb : Nat) (l : List Int) (hn : n = l.length) (hr : RdV w B (LZ l)) (hB : 0 < n → ∀ b off, B = some ⟨b, off, none⟩ → ¬ mineD g d b) (hn2 : n ≤ 1000000) :
    Calls Try.prog 33 #[.pointer (some ⟨g, 0, none⟩), .slice B n cb] w fun e w' => RBumpR w base g m d l e w' := by
  have H := Lib.hid h
  have HI := Lib.hid hi
  have HR := Lib.hid hr
  have HN := Lib.hid hn
  have HBB := Lib.hid hB
  have HMV := Lib.hid hmv
  have hlr := hi.len.1
  have hls := hi.len.2
  have hNb : m.N ≤ 1048576 := hi.w.N
  have hm0 := hi.w.m0
  have c0 : w.cell? ⟨g, 0, none⟩ = some (.slice d.rA m.N d.rc) := by
    have : w.cell? ⟨g, 0, none⟩ = some (.slice d.rA d.row.length d.rc) := h.blk.cell 0
    rwa [hlr] at this
  have HLR := Lib.hid hlr
  have HLS := Lib.hid hls
  have HRL := Lib.hid hi.w.len
  have HBAD := Lib.hid (fun (hb : badI m.N l = true) (z : Nat) => (show RBumpR w base g m d l (.returned (.int .i64 2)) (w.drewN z) from ⟨by unfold bumpE; rw [if_pos hb], d, h.drewN z, by unfold bumpM; rw [if_pos hb]; exact hi, .inl rfl, rfl, (Mod.refl _ _).drewN z⟩))
  have HEMP := Lib.hid (fun (hb : badI m.N l = false) (he : l = []) (z : Nat) => (show RBumpR w base g m d l (.returned (.int .i64 0)) (w.drewN z) from ⟨by unfold bumpE; rw [if_neg (by rw [hb]; decide)], d, h.drewN z, by unfold bumpM; rw [if_neg (by rw [hb]; decide), if_pos he]; exact hi, .inl rfl, rfl, (Mod.refl _ _).drewN z⟩))
  clear h hi hr hn hB hlr hls
  generalize hMN : m.N = N at *
  have HMN := Lib.hid hMN
  clear hMN
  go_enter Try.func33, Try.ntmps33
  go_wp2_with fail
  go_loopw [5] (fun i wr => ∃ (k z : Nat), k ≤ n ∧ i = .int .i64 k ∧ badI N (l.take k) = false ∧ wr = w.drewN z) (fun i _ => n - (intOf i).toNat)
  case atStart => exact ⟨0, 0, Nat.zero_le _, rfl, rfl, rfl⟩
  case round =>
    obtain ⟨k, z, hk, rfl, hf, hwz⟩ := hrel
    have HF := Lib.hid hf
    have HWZ := Lib.hid hwz
    have HQw := Lib.hid (show RqR wr base g d from hwz ▸ H.out.drewN z)
    have HMw := Lib.hid (show Mod (mineD g d) w wr from hwz ▸ (Mod.refl _ _).drewN z)
    have HRw := Lib.hid (show RdV wr B (LZ l) from hwz ▸ HR.out.drewN z)
    have c0 : wr.cell? ⟨g, 0, none⟩ = some (.slice d.rA N d.rc) := hwz ▸ c0
    clear hf hwz
    by_cases hlt : k < n
    · have hkl : k < l.length := by rw [← HN.out]; exact hlt
      obtain ⟨bt, ot, eB, _, hct⟩ := RdV.at_ HRw.out (enc_at (enc := Value.int .i64) hkl)
      have HB1 := Lib.hid (fun (hx : l[k] < 1 ∨ (N : Int) < l[k]) => HBAD.out (List.any_eq_true.2 ⟨_, List.getElem_mem hkl, by simpa using hx⟩))
      have HG := Lib.hid (fun (h1 : ¬ l[k] < 1) (h2 : ¬ (N : Int) < l[k]) => (show badI N (l.take (k + 1)) = false from by
        unfold badI at *
        rw [List.take_succ_eq_append_getElem hkl, List.any_append, HF.out]
        simp [h1, h2]))
      generalize l[k]'hkl = x at *
      subst eB
      clear hkl
      by_cases p1 : x < 1
      · have HD := Lib.hid (HB1.out (.inl p1))
        clear HB1 HG
        go_wp2_with fail
        go_quiet (fail)
        go_wp2
        go_ret
        have hd := HD.out (z + nq)
        rw [← drewN_add, ← HWZ.out] at hd
        exact hd
      · by_cases p2 : (N : Int) < x
        · have HD := Lib.hid (HB1.out (.inr p2))
          clear HB1 HG
          go_wp2_with fail
          go_quiet (fail)
          go_wp2
          go_ret
          have hd := HD.out (z + nq)
          rw [← drewN_add, ← HWZ.out] at hd
          exact hd
        · have HE := Lib.hid (HG.out p1 p2)
          clear HB1 HG
          go_wp2_with fail
          go_quiet (fail)
          go_wp2
          go_roundw
          case rel => exact ⟨k + 1, z + nq, by omega, by go_num, HE.out, by rw [← drewN_add, ← HWZ.out]⟩
          case measure => simp [intOf]; omega
    · have HNB := Lib.hid (show badI N l = false by have := HF.out; rwa [List.take_of_length_le (by rw [← HN.out]; omega)] at this)
      by_cases hz : n = 0
      · have HD := Lib.hid (HEMP.out HNB.out (List.eq_nil_of_length_eq_zero (by rw [← HN.out]; exact hz)) z)
        have hz1 : ((n : Int) == 0) = true := by simp [hz]
        clear hz
        go_wp2
        go_ret
        obtain rfl := HWZ.out
        exact HD.out
      · have hz1 : ((n : Int) == 0) = false := by simp; omega
        have HZ := Lib.hid hz
        clear HBAD HEMP HF hz
        have d2 : wr.cell? ⟨g, 2, none⟩ = some (.int .i64 d.moved) := HQw.out.blk.cell 2
        have HDM := Lib.hid HI.out.moved
        rw [HDM.out] at d2
        have f2 : wr.frozen? ⟨g, 2, none⟩ = false := HQw.out.blk.frozen 2
        have e1 : IntKind.i64.wrap (m.moved + 1) = m.moved + 1 := IntWalk.i64_in _ (by have := HMV.out; omega)
        have HQ1 := Lib.hid (show RqR (wr.setCell ⟨g, 2, none⟩ (.int .i64 (m.moved + 1))) base g { d with moved := m.moved + 1 } from HQw.out.field 2 _ { d with moved := m.moved + 1 } rfl HQw.out.r HQw.out.s)
        have HM1 := Lib.hid (show Mod (mineD g d) w (wr.setCell ⟨g, 2, none⟩ (.int .i64 (m.moved + 1))) from HMw.out.setCell (p := ⟨g, 2, none⟩) (.inl (.inl rfl)) _)
        have HPOS := Lib.hid (fun i (hil : i < m.row.length) => ((HI.out.w.mem _).1 (List.getElem_mem hil)))
        have HROW := Lib.hid HI.out.row
        go_wp2_with fail
        clear d2 f2 c0 e1 HRw HQw HMw HWZ
        generalize wr.setCell ⟨g, 2, none⟩ (.int .i64 (m.moved + 1)) = W1 at *
        go_loopw [6, 7, 8] (fun s t i wr => ∃ (k : Nat) (A1 : Option Addr) (c1 : Nat) (A2 : Option Addr) (c2 : Nat), k ≤ N ∧ i = .int .i64 k ∧ s = .slice A1 (stayL (m.row.take k) l).length c1 ∧ t = .slice A2 (mvL (m.row.take k) l).length c2 ∧ BuR w wr base g N (m.moved + 1) d (stayL (m.row.take k) l) (mvL (m.row.take k) l) (stB m l k) A1 c1 A2 c2) (fun _ _ i _ => N - (intOf i).toNat)
        case atStart => exact ⟨0, none, 0, none, 0, Nat.zero_le _, rfl, rfl, rfl, App.Own.nil _ _ _, App.Own.nil _ _ _, (fun i e => by cases e), (by
          have := HQ1.out
          rw [stB_zero, ← HMN.out, ← HI.out.st]; exact this), HM1.out⟩
        case round =>
          clear HQ1 HM1
          obtain ⟨k, A1, c1, A2, c2, hk, rfl, rfl, rfl, hS⟩ := hrel
          have HS := Lib.hid hS
          have c0 : wr.cell? ⟨g, 0, none⟩ = some (.slice d.rA N d.rc) := by
            have : wr.cell? ⟨g, 0, none⟩ = some (.slice d.rA d.row.length d.rc) := hS.q.blk.cell 0
            rwa [HLR.out] at this
          have HRB := Lib.hid (HR.out.mod hS.m (fun b off e hs => HBB.out (Nat.pos_of_ne_zero HZ.out) b off e hs))
          clear hS
          by_cases hlt2 : k < N
          · have hkr : k < m.row.length := by rw [HRL.out]; exact hlt2
            have hp := HPOS.out k hkr
            obtain ⟨br, eA, hcr⟩ := Own.at_ HS.out.q.r (k := k) (by show k < d.row.length; rw [HLR.out]; exact hlt2)
            have hrv : (show List Int from d.row)[k]'(by rw [HLR.out]; exact hlt2) = ((m.row[k] : Nat) : Int) := by
              have e : d.row[k]? = some ((m.row[k] : Nat) : Int) := by rw [HROW.out]; unfold rowI; rw [List.getElem?_map, List.getElem?_eq_getElem hkr]; rfl
              rw [List.getElem?_eq_getElem (by rw [HLR.out]; exact hlt2)] at e
              exact Option.some.inj e
            have hcv : wr.cell? ⟨br, k, none⟩ = some (.int .i64 ((m.row[k] : Nat) : Int)) := by rw [hcr]; exact congrArg (fun z => some (Value.int .i64 z)) hrv
            have HHAS := Lib.hid (has_any (w := wr) B n cb l HN.out HRB.out (by omega) ((m.row[k] : Nat) : Int))
            have HIN := Lib.hid (fun h => (⟨mvL_next (l := l) hkr, stayL_next (l := l) hkr, stB_in (l := l) hkr h⟩ : _ ∧ _ ∧ _))
            have HOUT := Lib.hid (fun h => (⟨mvL_next (l := l) hkr, stayL_next (l := l) hkr, stB_out (l := l) hkr h⟩ : _ ∧ _ ∧ _))
            have HLN := Lib.hid (stay_len (row := m.row.take k) (l := l))
            have hkl : (m.row.take k).length = k := by rw [List.length_take]; omega
            rw [hkl] at HLN
            clear hcr hrv hkl
            change d.rA = _ at eA
            rw [eA] at c0
            generalize m.row[k]'hkr = v at *
            rw [HMN.out] at hp
            rcases hbv : l.contains (v : Int) with _ | _
            · obtain ⟨q1, q2, q3⟩ := HOUT.out hbv
              rw [if_neg (by rw [hbv]; decide), List.append_nil] at q1
              rw [if_neg (by rw [hbv]; decide)] at q2
              have Q1 := Lib.hid q1
              have Q2 := Lib.hid q2
              have Q3 := Lib.hid q3
              rw [hbv] at HHAS
              clear q1 q2 q3 HIN HOUT hbv hkr
              have HL1 := HLN.out.1
              go_wp2_with fail
              refine HHAS.out.mono ?_
              rintro e w2 ⟨rfl, rfl⟩
              generalize hs0 : stayL (m.row.take k) l = s0 at *
              have HS0 := Lib.hid hs0
              clear hs0 HHAS
              go_upto_region 12 with (at_builtin; refine wpAppAt rfl _ _ rfl w.heap.size A1 s0.length c1 (rowI s0) rfl (HS.out.o1.alloc _) wr.heap.size 0 1 1 [(v : Int)] rfl rfl (one_rd wr (v : Int) _) (by omega) (by simp; have := HS.out.m.size; omega) (s0.length + 1) rfl ?_; intro A3 c3 w3 hO3 hg3 ha3; have HS3 := Lib.hid (HS.out.stay H.out hO3 hg3 ha3); clear hO3 hg3 ha3)
              have HF := Lib.hid (show ∃ (A1' : Option Addr) (c1' : Nat) (A2' : Option Addr) (c2' : Nat), Value.slice A3 (s0.length + 1) c3 = .slice A1' (stayL (m.row.take (k + 1)) l).length c1' ∧ Value.slice A2 (mvL (m.row.take k) l).length c2 = .slice A2' (mvL (m.row.take (k + 1)) l).length c2' ∧ BuR w w3 base g N (m.moved + 1) d (stayL (m.row.take (k + 1)) l) (mvL (m.row.take (k + 1)) l) (stB m l (k + 1)) A1' c1' A2' c2' from
                ⟨A3, c3, A2, c2, by rw [Q2.out]; simp, by rw [Q1.out], by rw [Q1.out, Q2.out, Q3.out]; exact HS3.out⟩)
              obtain ⟨A1', c1', A2', c2', f1, f2, f3⟩ := HF.out
              have F1 := Lib.hid f1
              have F2 := Lib.hid f2
              have F3 := Lib.hid f3
              clear f1 f2 f3
              go_wp2
              go_roundw
              case rel => exact ⟨k + 1, A1', c1', A2', c2', by omega, by go_num, F1.out, F2.out, F3.out⟩
              case measure => simp [intOf]; omega
            · obtain ⟨q1, q2, q3⟩ := HIN.out hbv
              rw [if_pos hbv] at q1
              rw [if_pos hbv, List.append_nil] at q2
              have Q1 := Lib.hid q1
              have Q2 := Lib.hid q2
              have Q3 := Lib.hid q3
              rw [hbv] at HHAS
              clear q1 q2 q3 HIN HOUT hbv hkr
              have HL2 := HLN.out.2.1
              go_wp2_with fail
              refine HHAS.out.mono ?_
              rintro e w2 ⟨rfl, rfl⟩
              generalize ht0 : mvL (m.row.take k) l = t0 at *
              have HT0 := Lib.hid ht0
              clear ht0 HHAS
              go_upto_region 16 with (at_builtin; refine wpAppAt rfl _ _ rfl w.heap.size A2 t0.length c2 (rowI t0) rfl (HS.out.o2.alloc _) wr.heap.size 0 1 1 [(v : Int)] rfl rfl (one_rd wr (v : Int) _) (by omega) (by simp; have := HS.out.m.size; omega) (t0.length + 1) rfl ?_; intro A3 c3 w3 hO3 hg3 ha3; have HS3 := Lib.hid (HS.out.gone H.out hO3 hg3 ha3); clear hO3 hg3 ha3)
              clear c0 hcv
              obtain ⟨bs, eS, hcs⟩ := Own.at_ HS3.out.q.s (k := v) (by simp; omega)
              change d.sA = _ at eS
              have d0 : w3.cell? ⟨g, 0, none⟩ = some (.slice d.rA N d.rc) := by
                have : w3.cell? ⟨g, 0, none⟩ = some (.slice d.rA d.row.length d.rc) := HS3.out.q.blk.cell 0
                rwa [HLR.out] at this
              have d1 : w3.cell? ⟨g, 1, none⟩ = some (.slice (some ⟨bs, 0, none⟩) (N + 1) d.sc) := by
                have := HS3.out.q.blk.cell 1
                simpa [eS] using this
              have d2 : w3.cell? ⟨g, 2, none⟩ = some (.int .i64 (m.moved + 1)) := HS3.out.q.blk.cell 2
              have fs : w3.frozen? ⟨bs, v, none⟩ = false := by
                obtain ⟨bs', e, _, hrow⟩ := HS3.out.q.s.row (by simp)
                change d.sA = _ at e
                rw [eS] at e
                cases e
                exact hrow.frozen _
              have HSX := Lib.hid (show BuR w (w3.drew.setCell ⟨bs, v, none⟩ (.int .i64 ((N : Int) + (m.moved + 1)))) base g N (m.moved + 1) d (stayL (m.row.take (k + 1)) l) (mvL (m.row.take (k + 1)) l) (stB m l (k + 1)) A1 c1 A3 c3 from by
                have := (HS3.out.drewN 1).store H.out (v := v) (b := bs) (by omega) eS ((N : Int) + (m.moved + 1))
                rw [Q1.out, Q2.out, Q3.out, HMN.out]
                exact this)
              have ES := Lib.hid eS
              have e1 : IntKind.i64.wrap (N : Int) = (N : Int) := IntWalk.i64_in _ (by omega)
              have e2 : IntKind.i64.wrap ((N : Int) + (m.moved + 1)) = (N : Int) + (m.moved + 1) := IntWalk.i64_in _ (by have := HMV.out; omega)
              have hv1 : (v : Int) < (N : Int) + 1 := by omega
              have hv2 : v < N + 1 := by omega
              have hv3 : (0 : Int) ≤ (v : Int) := Int.natCast_nonneg _
              obtain ⟨x0, hx0⟩ : ∃ x0 : Int, w3.cell? ⟨bs, v, none⟩ = some (.int .i64 x0) := ⟨_, hcs⟩
              clear eS hcs HS HS3
              refine wp_region_still_tail 16 (by kernel_rfl) (by kernel_rfl) ?_
              change wpStill _ _ w3.drew _ _ _
              simp only [List.take_succ_cons, List.take_zero, List.drop_succ_cons, List.drop_zero]
              repeat still_step
              refine wpStill_nil ?_
              change wpList _ _ _ _ _ w3.drew
              have HF := Lib.hid (show ∃ (A1' : Option Addr) (c1' : Nat) (A2' : Option Addr) (c2' : Nat), Value.slice A1 (stayL (m.row.take k) l).length c1 = .slice A1' (stayL (m.row.take (k + 1)) l).length c1' ∧ Value.slice A3 (t0.length + 1) c3 = .slice A2' (mvL (m.row.take (k + 1)) l).length c2' ∧ BuR w (w3.drew.setCell ⟨bs, v, none⟩ (.int .i64 ((N : Int) + (m.moved + 1)))) base g N (m.moved + 1) d (stayL (m.row.take (k + 1)) l) (mvL (m.row.take (k + 1)) l) (stB m l (k + 1)) A1' c1' A2' c2' from
                ⟨A1, c1, A3, c3, by rw [Q2.out], by rw [Q1.out]; simp, HSX.out⟩)
              obtain ⟨A1', c1', A2', c2', f1, f2, f3⟩ := HF.out
              have F1 := Lib.hid f1
              have F2 := Lib.hid f2
              have F3 := Lib.hid f3
              clear f1 f2 f3
              go_wp2
              go_roundw
              case rel => exact ⟨k + 1, A1', c1', A2', c2', by omega, by go_num, F1.out, F2.out, F3.out⟩
              case measure => simp [intOf]; omega
          · have hkN : k = N := by omega
            have HT := Lib.hid (show m.row.take k = m.row from List.take_of_length_le (by rw [HRL.out]; omega))
            have HKN := Lib.hid hkN
            clear hkN
            have HLN := Lib.hid (stay_len (row := m.row) (l := l))
            rw [HT.out] at HS ⊢
            have hl1 : (stayL m.row l).length ≤ 1048576 := by have := HLN.out.1; rw [HRL.out] at this; omega
            have hl2 : (mvL m.row l).length ≤ 1048576 := by have := HLN.out.2.1; rw [HRL.out] at this; omega
            have HNIL := Lib.hid (show A2 = none → c2 = 0 from fun e => by
              obtain ⟨_, ⟨_, e2, _⟩ | ⟨j, e2, _⟩⟩ := HS.out.o2
              · exact e2
              · rw [e2] at e; cases e)
            have hlr2 : (stayL m.row l).length + (mvL m.row l).length = N := by rw [HLN.out.2.2, HRL.out]
            have HL3 := Lib.hid hlr2
            clear hlr2
            go_upto_region 19 with (at_builtin; refine wpAppG rfl _ _ rfl w.heap.size A1 (stayL m.row l).length c1 (rowI (stayL m.row l)) rfl HS.out.o1 A2 (mvL m.row l).length c2 (rowI (mvL m.row l)) rfl (rowI_len _).symm HS.out.o2.rd HNIL.out (by omega) HS.out.m.size N HL3.out ?_; intro A3 c3 w3 hO3 hg3; have HO3 := Lib.hid hO3; have HG3 := Lib.hid hg3; clear hO3 hg3)
            have HQ3 := Lib.hid (HS.out.q.mod (Mod.grown HG3.out) (fun i hi e2 => by
              have h1 : mineD g d i := hi
              exact absurd (H.out.minB h1).2 (Nat.not_lt_of_le (HS.out.o1.block e2))))
            have HM3 := Lib.hid (HS.out.m.trans (Mod.grown HG3.out) (fun i hi e2 => absurd hi (Nat.not_lt_of_le (HS.out.o1.block e2))))
            have f0 : w3.frozen? ⟨g, 0, none⟩ = false := HQ3.out.blk.frozen 0
            have d0 : w3.cell? ⟨g, 0, none⟩ = some (.slice d.rA N d.rc) := by
              have : w3.cell? ⟨g, 0, none⟩ = some (.slice d.rA d.row.length d.rc) := HQ3.out.blk.cell 0
              rwa [HLR.out] at this
            have HFIN := Lib.hid (show RBumpR w base g m d l (.returned (.int .i64 0)) (w3.setCell ⟨g, 0, none⟩ (.slice A3 N c3)) from by
              have hrl : (rowI (stayL m.row l) ++ rowI (mvL m.row l)).length = N := by rw [List.length_append, rowI_len, rowI_len]; exact HL3.out
              have hbm : bumpM m l = mvM m (mvL m.row l) := by
                unfold bumpM
                rw [HMN.out, if_neg (by rw [HNB.out]; decide), if_neg (fun e => HZ.out (by rw [HN.out, e]; rfl))]
              refine ⟨by unfold bumpE; rw [HMN.out, if_neg (by rw [HNB.out]; decide)], { d with moved := m.moved + 1, st := (List.range (N + 1)).map (stB m l k), row := rowI (stayL m.row l) ++ rowI (mvL m.row l), rA := A3, rc := c3 }, ?_, ?_, .inr (fun i e => (own_lt HO3.out e).1), rfl, HM3.out.setCell (p := ⟨g, 0, none⟩) (.inl (.inl rfl)) _⟩
              · refine HQ3.out.field 0 _ _ (by simp [hrl]) ?_ HQ3.out.s
                dsimp only
                rw [hrl]
                exact HO3.out.low (Nat.le_of_lt (Nat.lt_of_le_of_lt H.out.bg H.out.blk.lt))
              · rw [hbm]
                refine fin_D HI.out.w HI.out.z HMV.out ?_ ?_ rfl
                · show rowI _ ++ rowI _ = rowI (_ ++ _)
                  unfold rowI; rw [List.map_append]
                · show (List.range (N + 1)).map (stB m l k) = _
                  rw [HMN.out, HRL.out, HKN.out])
            clear HS
            go_wp2
            go_ret
            exact HFIN.out
end Go.Proofs.Ytgldhnjbodmbbaa.Qu
