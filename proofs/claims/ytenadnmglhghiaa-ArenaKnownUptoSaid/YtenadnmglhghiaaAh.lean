/- An arena: slices.Contains at clauses, New, Put. Conditions: the memory, at most four million literals. -/
import Derived.Test.YtenadnmglhghiaaAg
import Derived.Deep.AppendLies
namespace Go.Proofs.Ytenadnmglhghiaa.Ar
open Go.RowKit Go.Proofs.Ytenadnmglhghiaa.Mem Go.Proofs.Ytenadnmglhghiaa.Sl Go.Shelf
open Go.Proofs.Ytenadnmglhghiaa.FnL (enc_at below_then)
set_option linter.unusedVariables false

def hasL (l : List Int) (v : Int) : Bool := l.contains v
/-- slices.Index, slices.Contains: a number at which it stands first; not so: -1. -/
theorem index_any {w : World} (A : Option Addr) (n c : Nat) (l : List Int) (hn : n = l.length) (hr : RdV w A (LI l)) (hmx : n ≤ 4000000) (v : Int) : Calls Try.prog 43 #[.slice A n c, .int .i32 v] w fun e w' => (∃ j : Int, e = .returned (.int .i64 j) ∧ (decide (0 ≤ j) = hasL l v)) ∧ w = w' := by
  have HR := Lib.hid hr
  have HN := Lib.hid hn
  clear hr hn
  go_enter Try.func43, Try.ntmps43
  go_wp2_with fail
  go_loopw [8] (fun i wr => ∃ k : Nat, k ≤ n ∧ i = .int .i64 k ∧ hasL (l.take k) v = false ∧ w = wr) (fun i _ => n - (intOf i).toNat)
  case atStart => exact ⟨0, Nat.zero_le _, rfl, rfl, rfl⟩
  case round =>
    obtain ⟨k, hk, rfl, hf, rfl⟩ := hrel
    have HF := Lib.hid hf
    clear hf
    by_cases hlt : k < n
    · have hkl : k < l.length := by rw [← HN.out]; exact hlt
      obtain ⟨bt, ot, eB, _, hct⟩ := RdV.at_ HR.out (enc_at (enc := Value.int .i32) hkl)
      have HY := Lib.hid (show l[k] = v → hasL l v = true from fun h => by unfold hasL; rw [← h]; simp)
      have HNO := Lib.hid (show l[k] ≠ v → hasL (l.take (k + 1)) v = false from fun h => by
        have h2 := HF.out
        unfold hasL at h2 ⊢
        rw [List.take_succ_eq_append_getElem hkl]
        simp only [List.contains_eq_mem, decide_eq_false_iff_not, List.mem_append, List.mem_singleton, not_or] at *
        exact ⟨h2, fun e => h e.symm⟩)
      generalize l[k]'hkl = x at *
      subst eB
      clear hkl
      by_cases p : x = v
      · have HE := Lib.hid (HY.out p)
        subst p
        clear HY HNO
        go_wp2
        go_ret
        exact ⟨⟨k, rfl, by rw [HE.out]; exact decide_eq_true (by omega)⟩, rfl⟩
      · have HE := Lib.hid (HNO.out p)
        have p' : (v == x) = false := by simpa using fun e => p e.symm
        clear HY HNO
        go_wp2
        go_roundw
        case rel => exact ⟨k + 1, by omega, by go_num, HE.out, trivial⟩
        case measure => simp [intOf]; omega
    · have HE := Lib.hid (show hasL l v = false by have := HF.out; rwa [List.take_of_length_le (by rw [← HN.out]; omega)] at this)
      go_wp2
      go_ret
      exact ⟨⟨-1, rfl, by rw [HE.out]; rfl⟩, rfl⟩
theorem contains_any {w : World} (A : Option Addr) (n c : Nat) (l : List Int) (hn : n = l.length) (hr : RdV w A (LI l)) (hmx : n ≤ 4000000) (v : Int) : Calls Try.prog 29 #[.slice A n c, .int .i32 v] w fun e w' => e = .returned (.bool (hasL l v)) ∧ w = w' := by
  have HI := Lib.hid (index_any A n c l hn hr hmx v)
  clear hr hn
  go_enter Try.func29, Try.ntmps29
  go_wp2_with fail
  refine HI.out.mono ?_
  rintro e w1 ⟨⟨j, rfl, hj⟩, rfl⟩
  have HJ := Lib.hid hj
  clear hj
  go_wp2
  go_ret
  exact ⟨by rw [← HJ.out]; rfl, rfl⟩
theorem own_is {w : World} {base n c : Nat} {t : TypeId} {A : Option Addr} {xs : List Value} (h : App.Own w base t A n c xs) {i : Nat} (e : (Value.slice A n c).ownBlock = some i) : A = some ⟨i, 0, none⟩ := by
  obtain ⟨_, ⟨rfl, _⟩ | ⟨g, rfl, _⟩⟩ := h
  · cases e
  · have e : g = i := Option.some.inj e
    rw [e]
/-- Append to a row of words of one's own, and where the new slice lies. -/
theorem wpAppWat {w : World} {ops : Array Oper} {rest : List Oper} {o : Oper} {a : Act} {Q : Exit → Act → World → Prop} (hgd : o.guard = none) (s x : Operand)
    (ho : o.op = .call { callee := .builtin .append, args := #[s, x], argTypes := #[67, 67] })
    (base : Nat) (A : Option Addr) (n c : Nat) (xs : List Int) (hs : a.eval s = .slice A n c) (hown : App.Own w base 71 A n c (UZ xs))
    (b off : Nat) (m c2 : Nat) (news : List Int) (hx : a.eval x = .slice (some ⟨b, off, none⟩) m c2) (hl : m = news.length) (hr : RdV w (some ⟨b, off, none⟩) (UZ news))
    (h63 : n + m ≤ 400000000) (hbase : base ≤ w.heap.size) (r : Nat) (hrr : n + m = r)
    (h : ∀ A' c' w', App.Own w' base 71 A' r c' (UZ (xs ++ news)) → Mod (fun i => A = some ⟨i, 0, none⟩) w w' → (∀ i, A' = some ⟨i, 0, none⟩ → A = some ⟨i, 0, none⟩ ∨ i = w.heap.size) → wpList Try.prog ops Q rest (a.put o.dst (.slice A' r c')) w') : wpList Try.prog ops Q (o :: rest) a w := by
  subst hrr
  obtain ⟨i0, hi⟩ := Option.isSome_iff_exists.1 (show (Try.prog.info? 71).isSome = true by kernel_rfl)
  have hz : (Try.prog.info? 71).map (fun i => (i.zero, i.size, i.bytes)) = some (some (.int .u32 0), 1, 4) := by kernel_rfl
  rw [hi] at hz
  injection hz with hz
  injection hz with hz0 hz
  injection hz with hz1 hz2
  refine wpList_append_own_at w hgd s x 67 ho base 71 i0 (.int .u32 0) 1 4 Try.underlying67 hi hz0 hz1 hz2 rfl (by decide) (.slice A n c) n (UZ xs) hs hown.own ⟨b, off, none⟩ m c2 (UZ news) hx (by simp [UZ, hl]) (fun j u hj => ?_) (fun u hu => by obtain ⟨y, _, rfl⟩ := List.mem_map.1 hu; rfl) (by unfold maxLen; omega) (by omega) hbase (fun v' w' h1 h2 _ h3 => ?_)
  · obtain ⟨b', off', e', _, hc'⟩ := RdV.at_ hr hj
    cases e'
    rw [Go.WideShapes.add_plain]
    exact hc'
  · obtain ⟨A', c', rfl, hO⟩ := App.Own.of h1
    refine h A' c' w' (by rw [UZ, List.map_append]; exact hO) ((Mod.grown h2).mono fun i _ e => own_is hown e.symm) (fun i e => ?_)
    subst e
    rcases h3 with e | e
    · exact .inl (own_is hown (e.symm.trans rfl))
    · exact .inr (by simpa [Value.ownBlock] using e)
/-- Where Put stands. -/
structure PuR (w wr : World) (base : Nat) (q : AAd) (lim : Int) (its : List Itm) (xs : List Int) (A : Option Addr) (c : Nat) : Prop where
  own : App.Own wr base 71 A (sumw its + xs.length) c (UZ (flat its ++ xs))
  blk : Blk wr q.g 69 #[.int .i64 lim, .slice A (sumw its + xs.length) c, .map (some q.b), .int .i64 (waste its : Nat)]
  mp : MapK wr q.b q.nn (refs its)
  at_ : ∀ i, A = some ⟨i, 0, none⟩ → q.A = some ⟨i, 0, none⟩ ∨ w.heap.size ≤ i
  m : Mod (mq q) w wr
theorem Own.ne_blk {w : World} {base n c g : Nat} {t t' : TypeId} {A : Option Addr} {xs : List Value} {cs : Array Value} (h : App.Own w base t A n c xs) (hb : Blk w g t' cs) (hne : t ≠ t') {i : Nat} (e : A = some ⟨i, 0, none⟩) : i ≠ g := by
  obtain ⟨_, ⟨rfl, _⟩ | ⟨a, rfl, _, _, hr⟩⟩ := h
  · cases e
  · obtain rfl : a = i := by injection e with e; injection e
    exact hr.ne_blk hb hne
theorem Own.ne_map {w : World} {base n c b nn : Nat} {t : TypeId} {ks : List Nat} {A : Option Addr} {xs : List Value} (h : App.Own w base t A n c xs) (hb : MapK w b nn ks) {i : Nat} (e : A = some ⟨i, 0, none⟩) : i ≠ b := by
  obtain ⟨_, ⟨rfl, _⟩ | ⟨a, rfl, _, _, ⟨_, hk, _⟩⟩⟩ := h
  · cases e
  · obtain rfl : a = i := by injection e with e; injection e
    exact hb.ne hk
theorem Own.lt {w : World} {base n c : Nat} {t : TypeId} {A : Option Addr} {xs : List Value} (h : App.Own w base t A n c xs) {i : Nat} (e : A = some ⟨i, 0, none⟩) : i < w.heap.size := by
  obtain ⟨_, ⟨rfl, _⟩ | ⟨a, rfl, _, _, hr⟩⟩ := h
  · cases e
  · obtain rfl : a = i := by injection e with e; injection e
    exact hr.lt
theorem PuR.start {w : World} {base : Nat} {q : AAd} {lim : Int} {its : List Itm} (h : AR w base q lim its) : PuR w w base q lim its [] q.A q.c :=
  ⟨by simpa using h.row, by simpa using h.blk, h.mp, fun i e => .inl e, Mod.refl _ _⟩
theorem PuR.step {w wr w3 : World} {base : Nat} {q : AAd} {lim : Int} {its : List Itm} {xs news : List Int} {A A3 : Option Addr} {c c3 r : Nat} {o : Obj} (h : PuR w wr base q lim its xs A c)
    (hO : App.Own w3 base 71 A3 r c3 (UZ ((flat its ++ xs) ++ news))) (hm : Mod (fun i => A = some ⟨i, 0, none⟩) (wr.alloc o) w3) (ha : ∀ i, A3 = some ⟨i, 0, none⟩ → A = some ⟨i, 0, none⟩ ∨ i = (wr.alloc o).heap.size) (hr : r = sumw its + (xs ++ news).length) :
    PuR w (w3.setCell ⟨q.g, 1, none⟩ (.slice A3 r c3)) base q lim its (xs ++ news) A3 c3 := by
  subst hr
  have hal : Mod (fun _ => False) wr (wr.alloc o) := (Mod.refl _ _).alloc o
  have hb1 : Blk w3 q.g 69 #[.int .i64 lim, .slice A (sumw its + xs.length) c, .map (some q.b), .int .i64 (waste its : Nat)] := (h.blk.alloc o).mod hm (fun e => Own.ne_blk h.own h.blk (by decide) e rfl)
  have hp1 : MapK w3 q.b q.nn (refs its) := ((h.mp.mod hal id).mod hm (fun e => Own.ne_map h.own h.mp e rfl))
  have hs : Mod (fun i => i = q.g) w3 (w3.setCell ⟨q.g, 1, none⟩ (.slice A3 (sumw its + (xs ++ news).length) c3)) := Mod.setCell (S := fun i => i = q.g) (Mod.refl _ _) (p := ⟨q.g, 1, none⟩) (.inl rfl) _
  have hsz : w.heap.size ≤ wr.heap.size := h.m.size
  refine ⟨?_, ?_, hp1.mod hs (fun e => hp1.ne hb1 e.symm), fun i e => ?_, ?_⟩
  · rw [← List.append_assoc]
    exact hO.mod hs (fun i _ e e2 => Own.ne_blk hO hb1 (by decide) e e2)
  · exact Blk.set_ hb1 1 _
  · rcases ha i e with e | e
    · exact h.at_ i e
    · rw [e]; simp; exact .inr (by omega)
  · refine ((h.m.trans hal (fun _ _ e => e.elim)).trans hm (fun i hi e => ?_)).trans hs (fun i _ e => .inl e)
    rcases h.at_ i e with e | e
    · exact .inr (.inr e)
    · omega
theorem PuR.later {w wr W : World} {base : Nat} {q : AAd} {lim : Int} {its : List Itm} {xs : List Int} {A : Option Addr} {c : Nat} (h : PuR w wr base q lim its xs A c) (hb : Below wr.heap.size wr W) : PuR w W base q lim its xs A c :=
  ⟨h.own.below hb, h.blk.below hb, h.mp.below hb, h.at_, h.m.trans (Mod.none_ hb (fun _ => False)) (fun _ _ e => e.elim)⟩
theorem PuR.grown {w wr w3 : World} {base : Nat} {q : AAd} {lim : Int} {its : List Itm} {xs : List Int} {A : Option Addr} {c : Nat} {o : Obj} (h : PuR w wr base q lim its xs A c)
    (hm : Mod (fun i => A = some ⟨i, 0, none⟩) (wr.alloc o) w3) : Blk w3 q.g 69 #[.int .i64 lim, .slice A (sumw its + xs.length) c, .map (some q.b), .int .i64 (waste its : Nat)] :=
  (h.blk.alloc o).mod hm (fun e => Own.ne_blk h.own h.blk (by decide) e rfl)
end Go.Proofs.Ytenadnmglhghiaa.Ar
