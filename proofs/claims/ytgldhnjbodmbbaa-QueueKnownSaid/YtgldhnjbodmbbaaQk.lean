/- The document's queue in memory; New, Stamp, Next, has, in. Conditions: the memory, numbers below a million. -/
import Derived.Test.YtgldhnjbodmbbaaQf
namespace Go.Proofs.Ytgldhnjbodmbbaa.Qu
open Go.RowKit Go.Proofs.Ytgldhnjbodmbbaa.Mem Go.Proofs.Ytgldhnjbodmbbaa.Sl Go.Shelf
open Go.Proofs.Ytgldhnjbodmbbaa.FnL (enc_at below_then)
set_option linter.unusedVariables false

theorem wpAppJ {w : World} {ops : Array Oper} {rest : List Oper} {o : Oper} {a : Act} {Q : Exit → Act → World → Prop} (hgd : o.guard = none) (s x : Operand)
    (ho : o.op = .call { callee := .builtin .append, args := #[s, x], argTypes := #[51, 51] })
    (base : Nat) (A : Option Addr) (n c : Nat) (xs : List Int) (hs : a.eval s = .slice A n c) (hown : App.Own w base 2 A n c (LZ xs))
    (A2 : Option Addr) (m c2 : Nat) (news : List Int) (hx : a.eval x = .slice A2 m c2) (hl : m = news.length) (hr : RdV w A2 (LZ news)) (hnil : A2 = none → c2 = 0)
    (h63 : n + m ≤ 4000000) (hbase : base ≤ w.heap.size) (r : Nat) (hrr : n + m = r)
    (h : ∀ A' c' w', App.Own w' base 2 A' r c' (LZ (xs ++ news)) → w.grownBy w' (Value.slice A n c).ownBlock → wpList Try.prog ops Q rest (a.put o.dst (.slice A' r c')) w') : wpList Try.prog ops Q (o :: rest) a w := by
  subst hrr
  obtain ⟨i0, hi⟩ := Option.isSome_iff_exists.1 (show (Try.prog.info? 2).isSome = true by kernel_rfl)
  have hz : (Try.prog.info? 2).map (fun i => (i.zero, i.size, i.bytes)) = some (some (.int .i64 0), 1, 8) := by kernel_rfl
  rw [hi] at hz
  injection hz with hz
  injection hz with hz0 hz
  injection hz with hz1 hz2
  refine App.wpList_app hgd s x 51 ho base 2 i0 (.int .i64 0) 8 Try.underlying51 hi hz0 hz1 hz2 rfl (.slice A n c) n (LZ xs) hs hown.own A2 m c2 (LZ news) hx (by simpa [LZ] using hl) hr hnil one_LZ (by unfold maxLen; omega) (by omega) hbase (fun v' w' h1 h2 => ?_)
  obtain ⟨A', c', rfl, hO⟩ := App.Own.of h1
  exact h A' c' w' (by rw [LZ, List.map_append]; exact hO) h2
/-- .. of ints, telling which block may have turned. -/
theorem wpAppG {w : World} {ops : Array Oper} {rest : List Oper} {o : Oper} {a : Act} {Q : Exit → Act → World → Prop} (hgd : o.guard = none) (s x : Operand)
    (ho : o.op = .call { callee := .builtin .append, args := #[s, x], argTypes := #[29, 29] })
    (base : Nat) (A : Option Addr) (n c : Nat) (xs : List Int) (hs : a.eval s = .slice A n c) (hown : App.Own w base 3 A n c (LZ xs))
    (A2 : Option Addr) (m c2 : Nat) (news : List Int) (hx : a.eval x = .slice A2 m c2) (hl : m = news.length) (hr : RdV w A2 (LZ news)) (hnil : A2 = none → c2 = 0)
    (h63 : n + m ≤ 4000000) (hbase : base ≤ w.heap.size) (r : Nat) (hrr : n + m = r)
    (h : ∀ A' c' w', App.Own w' base 3 A' r c' (LZ (xs ++ news)) → w.grownBy w' (Value.slice A n c).ownBlock → wpList Try.prog ops Q rest (a.put o.dst (.slice A' r c')) w') : wpList Try.prog ops Q (o :: rest) a w := by
  subst hrr
  obtain ⟨i0, hi⟩ := Option.isSome_iff_exists.1 (show (Try.prog.info? 3).isSome = true by kernel_rfl)
  have hz : (Try.prog.info? 3).map (fun i => (i.zero, i.size, i.bytes)) = some (some (.int .i64 0), 1, 8) := by kernel_rfl
  rw [hi] at hz
  injection hz with hz
  injection hz with hz0 hz
  injection hz with hz1 hz2
  refine App.wpList_app hgd s x 29 ho base 3 i0 (.int .i64 0) 8 Try.underlying29 hi hz0 hz1 hz2 rfl (.slice A n c) n (LZ xs) hs hown.own A2 m c2 (LZ news) hx (by simpa [LZ] using hl) hr hnil one_LZ (by unfold maxLen; omega) (by omega) hbase (fun v' w' h1 h2 => ?_)
  obtain ⟨A', c', rfl, hO⟩ := App.Own.of h1
  exact h A' c' w' (by rw [LZ, List.map_append]; exact hO) h2
structure DR where
  row : List Int
  st : List Int
  moved : Int
  rA : Option Addr
  rc : Nat
  sA : Option Addr
  sc : Nat
structure RqR (w : World) (base g : Nat) (d : DR) : Prop where
  blk : Blk w g 62 #[.slice d.rA d.row.length d.rc, .slice d.sA d.st.length d.sc, .int .i64 d.moved]
  r : App.Own w base 3 d.rA d.row.length d.rc (LZ d.row)
  s : App.Own w base 2 d.sA d.st.length d.sc (LZ d.st)
  bg : base ≤ g
structure DInv (m : QM) (d : DR) : Prop where
  w : QW m
  row : d.row = rowI m.row
  st : d.st = (List.range (m.N + 1)).map m.st
  moved : d.moved = m.moved
  z : m.st 0 = 0
def mineD (g : Nat) (d : DR) (i : Nat) : Prop := i = g ∨ d.rA = some ⟨i, 0, none⟩ ∨ d.sA = some ⟨i, 0, none⟩
section
variable {w w' : World} {base g : Nat} {d : DR} {m : QM}
theorem RqR.mod {S : Nat → Prop} (h : RqR w base g d) (hm : Mod S w w') (hS : ∀ i, mineD g d i → ¬ S i) : RqR w' base g d :=
  ⟨h.blk.mod hm (hS _ (.inl rfl)), h.r.mod hm (fun i _ e => hS i (.inr (.inl e))), h.s.mod hm (fun i _ e => hS i (.inr (.inr e))), h.bg⟩
theorem RqR.below (h : RqR w base g d) (hb : Below w.heap.size w w') : RqR w' base g d := h.mod (Mod.none_ hb (fun _ => False)) (fun _ _ => id)
theorem RqR.drewN (h : RqR w base g d) (n : Nat) : RqR (w.drewN n) base g d := h.below (belowN (Below.refl _ _) n)
theorem RqR.low {base' : Nat} (h : RqR w base g d) (hb : base' ≤ base) : RqR w base' g d := ⟨h.blk, h.r.low hb, h.s.low hb, Nat.le_trans hb h.bg⟩
theorem RqR.minB (h : RqR w base g d) {i : Nat} (hi : mineD g d i) : base ≤ i ∧ i < w.heap.size := by
  rcases hi with rfl | e | e
  · exact ⟨h.bg, h.blk.lt⟩
  · exact own_lt h.r e
  · exact own_lt h.s e
theorem RqR.typ (h : RqR w base g d) {i : Nat} (hi : mineD g d i) : ∃ t cs, Blk w i t cs ∧ (t = 62 ∨ t = 3 ∨ t = 2) := by
  rcases hi with rfl | e | e
  · exact ⟨_, _, h.blk, .inl rfl⟩
  · obtain ⟨cs, hb⟩ := own_blk h.r e; exact ⟨_, cs, hb, .inr (.inl rfl)⟩
  · obtain ⟨cs, hb⟩ := own_blk h.s e; exact ⟨_, cs, hb, .inr (.inr rfl)⟩
theorem RqR.nr (h : RqR w base g d) : d.rA ≠ some ⟨g, 0, none⟩ := fun e => by
  obtain ⟨cs, hb⟩ := own_blk h.r e; exact hb.ne_ h.blk (by decide) rfl
theorem RqR.ns (h : RqR w base g d) : d.sA ≠ some ⟨g, 0, none⟩ := fun e => by
  obtain ⟨cs, hb⟩ := own_blk h.s e; exact hb.ne_ h.blk (by decide) rfl
theorem RqR.nrs (h : RqR w base g d) (i : Nat) (e : d.rA = some ⟨i, 0, none⟩) : d.sA ≠ some ⟨i, 0, none⟩ := fun e2 => by
  obtain ⟨cs, hb⟩ := own_blk h.r e
  obtain ⟨cs2, hb2⟩ := own_blk h.s e2
  exact hb.ne_ hb2 (by decide) rfl
/-- A field is turned. -/
theorem RqR.field (h : RqR w base g d) (i : Nat) (u : Value) (d' : DR) (hc : (#[.slice d.rA d.row.length d.rc, .slice d.sA d.st.length d.sc, .int .i64 d.moved] : Array Value).setIfInBounds i u = #[.slice d'.rA d'.row.length d'.rc, .slice d'.sA d'.st.length d'.sc, .int .i64 d'.moved])
    (hr : App.Own w base 3 d'.rA d'.row.length d'.rc (LZ d'.row)) (hs : App.Own w base 2 d'.sA d'.st.length d'.sc (LZ d'.st)) : RqR (w.setCell ⟨g, i, none⟩ u) base g d' := by
  refine ⟨by rw [← hc]; exact h.blk.set_ i u, own_far hr (fun e => ?_) _, own_far hs (fun e => ?_) _, h.bg⟩
  · obtain ⟨cs, hb⟩ := own_blk hr e; exact hb.ne_ h.blk (by decide) rfl
  · obtain ⟨cs, hb⟩ := own_blk hs e; exact hb.ne_ h.blk (by decide) rfl
theorem DInv.len (h : DInv m d) : d.row.length = m.N ∧ d.st.length = m.N + 1 := ⟨by rw [h.row, rowI_len, h.w.len], by rw [h.st]; simp⟩
theorem DInv.at_ (h : DInv m d) {v : Nat} (hv : v ≤ m.N) : d.st[v]? = some (m.st v) := by
  rw [h.st, List.getElem?_map, List.getElem?_range (by omega)]; rfl
theorem Own.at_ {n c : Nat} {t : TypeId} {A : Option Addr} {l : List Int} (h : App.Own w base t A n c (LZ l)) {k : Nat} (hk : k < l.length) : ∃ b, A = some ⟨b, 0, none⟩ ∧ w.cell? ⟨b, k, none⟩ = some (.int .i64 (l[k]'hk)) := by
  obtain ⟨b, e, _, hr⟩ := h.row (by have := h.1; rw [LZ, List.length_map] at this; omega)
  exact ⟨b, e, hr.cell (by unfold LZ; rw [List.getElem?_map, List.getElem?_eq_getElem hk]; rfl)⟩
end
theorem has_any {w : World} (A : Option Addr) (n c : Nat) (l : List Int) (hn : n = l.length) (hr : RdV w A (LZ l)) (hmx : n ≤ 4000000) (v : Int) : Calls Try.prog 37 #[.slice A n c, .int .i64 v] w fun e w' => e = .returned (.bool (l.contains v)) ∧ w = w' := by
  have HR := Lib.hid hr
  have HN := Lib.hid hn
  clear hr hn
  go_enter Try.func37, Try.ntmps37
  go_wp2_with fail
  go_loopw [5] (fun i wr => ∃ k : Nat, k ≤ n ∧ i = .int .i64 k ∧ (l.take k).contains v = false ∧ w = wr) (fun i _ => n - (intOf i).toNat)
  case atStart => exact ⟨0, Nat.zero_le _, rfl, rfl, rfl⟩
  case round =>
    obtain ⟨k, hk, rfl, hf, rfl⟩ := hrel
    have HF := Lib.hid hf
    clear hf
    by_cases hlt : k < n
    · have hkl : k < l.length := by rw [← HN.out]; exact hlt
      obtain ⟨bt, ot, eB, _, hct⟩ := RdV.at_ HR.out (enc_at (enc := Value.int .i64) hkl)
      have HY := Lib.hid (show l[k] = v → l.contains v = true from fun h => by rw [← h]; simp)
      have HNO := Lib.hid (show l[k] ≠ v → (l.take (k + 1)).contains v = false from fun h => by
        have h2 := HF.out
        rw [List.take_succ_eq_append_getElem hkl]
        simp only [List.contains_eq_mem, decide_eq_false_iff_not, List.mem_append, List.mem_singleton, not_or] at *
        exact ⟨h2, fun e => h e.symm⟩)
      generalize l[k]'hkl = x at *
      subst eB
      clear hkl
      by_cases p : x = v
      · have HE := Lib.hid (HY.out p)
        subst p
        clear HY HNO
        go_wp2
        go_ret
        exact ⟨by rw [HE.out]; rfl, rfl⟩
      · have HE := Lib.hid (HNO.out p)
        have p' : (x == v) = false := by simpa using p
        clear HY HNO
        go_wp2
        go_roundw
        case rel => exact ⟨k + 1, by omega, by go_num, HE.out, trivial⟩
        case measure => simp [intOf]; omega
    · have HE := Lib.hid (show l.contains v = false by have := HF.out; rwa [List.take_of_length_le (by rw [← HN.out]; omega)] at this)
      go_wp2
      go_ret
      exact ⟨by rw [HE.out]; rfl, rfl⟩
theorem rstamp_any {w : World} {base g : Nat} {d : DR} {m : QM} (h : RqR w base g d) (hi : DInv m d) (v : Int) : Calls Try.prog 34 #[.pointer (some ⟨g, 0, none⟩), .int .i64 v] w fun e w' => e = .returned (.int .i64 (stampI m.N m.st v)) ∧ w = w' := by
  have c1 : w.cell? ⟨g, 1, none⟩ = some (.slice d.sA d.st.length d.sc) := h.blk.cell 1
  rw [hi.len.2] at c1
  have hN := hi.w.N
  have HE := Lib.hid (show stampI m.N m.st v = if v < 1 ∨ (m.N : Int) < v then 0 else m.st v.toNat from rfl)
  by_cases h1 : v < 1
  · have HF := Lib.hid (HE.out.trans (if_pos (.inl h1)))
    clear h HE hi
    generalize m.N = N at *
    go_enter Try.func34, Try.ntmps34
    go_wp2
    go_ret
    exact ⟨by rw [HF.out]; rfl, rfl⟩
  · by_cases h2 : (m.N : Int) < v
    · have HF := Lib.hid (HE.out.trans (if_pos (.inr h2)))
      have h3 : (m.N : Int) + 1 ≤ v := by omega
      clear h HE hi
      generalize m.N = N at *
      go_enter Try.func34, Try.ntmps34
      go_wp2
      go_ret
      exact ⟨by rw [HF.out]; rfl, rfl⟩
    · have HF := Lib.hid (HE.out.trans (if_neg (fun h => h.elim h1 h2)))
      obtain ⟨k, rfl⟩ : ∃ k : Nat, v = k := ⟨v.toNat, by omega⟩
      rw [Int.toNat_natCast] at HF
      have hkl : k < d.st.length := by rw [hi.len.2]; omega
      obtain ⟨b, e, hc⟩ := Own.at_ h.s hkl
      have hat := hi.at_ (v := k) (by omega)
      rw [List.getElem?_eq_getElem hkl] at hat
      rw [Option.some.inj hat] at hc
      rw [e] at c1
      have h3 : ¬ (m.N : Int) + 1 ≤ (k : Int) := by omega
      have h4 : (k : Int) < (m.N : Int) + 1 := by omega
      have h5 : k < m.N + 1 := by omega
      have h6 : (0 : Int) ≤ (k : Int) := Int.natCast_nonneg _
      clear h HE hi hat e hkl
      generalize m.st k = x at *
      generalize stampI m.N m.st (k : Int) = y at *
      generalize m.N = N at *
      go_enter Try.func34, Try.ntmps34
      go_wp2
      go_ret
      exact ⟨by rw [HF.out]; rfl, rfl⟩
end Go.Proofs.Ytgldhnjbodmbbaa.Qu
