/- Appends to rows of one's own, by type; an arena's Lit, Lits. Conditions: the memory. -/
import Derived.Test.YtenadnmglhghiaaAc
namespace Go.Proofs.Ytenadnmglhghiaa.Ar
open Go.RowKit Go.Proofs.Ytenadnmglhghiaa.Mem Go.Proofs.Ytenadnmglhghiaa.Sl Go.Shelf
open Go.Proofs.Ytenadnmglhghiaa.FnL (enc_at below_then)
set_option linter.unusedVariables false

theorem wpApp1 {w : World} {ops : Array Oper} {rest : List Oper} {o : Oper} {a : Act} {Q : Exit → Act → World → Prop} (enc : Int → Value) (henc : ∀ x, (enc x).oneCell' = true) (T E : TypeId) (z : Value) (bytes : Nat) (hb : bytes ≤ 16)
    (ht : Try.prog.underlying T = some (.slice E)) (hsome : (Try.prog.info? E).isSome = true) (hz : (Try.prog.info? E).map (fun i => (i.zero, i.size, i.bytes)) = some (some z, 1, bytes)) (hz1 : z.cells.size = 1)
    (hgd : o.guard = none) (s x : Operand)
    (ho : o.op = .call { callee := .builtin .append, args := #[s, x], argTypes := #[T, T] })
    (base : Nat) (A : Option Addr) (n c : Nat) (xs : List Int) (hs : a.eval s = .slice A n c) (hown : App.Own w base E A n c (xs.map enc))
    (A2 : Option Addr) (m c2 : Nat) (news : List Int) (hx : a.eval x = .slice A2 m c2) (hl : m = news.length) (hr : RdV w A2 (news.map enc)) (hnil : A2 = none → c2 = 0)
    (h63 : n + m ≤ 400000000) (hbase : base ≤ w.heap.size) (r : Nat) (hrr : n + m = r)
    (h : ∀ A' c' w', App.Own w' base E A' r c' ((xs ++ news).map enc) → Mod (fun i => A = some ⟨i, 0, none⟩) w w' → wpList Try.prog ops Q rest (a.put o.dst (.slice A' r c')) w') : wpList Try.prog ops Q (o :: rest) a w := by
  subst hrr
  obtain ⟨i0, hi⟩ := Option.isSome_iff_exists.1 hsome
  rw [hi] at hz
  injection hz with hz
  injection hz with hz0 hz
  injection hz with hz2 hz3
  refine App.wpList_app hgd s x T ho base E i0 z bytes ht hi hz0 hz2 hz3 hz1 (.slice A n c) n (xs.map enc) hs hown.own A2 m c2 (news.map enc) hx (by simpa using hl) hr hnil (fun u hu => by obtain ⟨y, _, rfl⟩ := List.mem_map.1 hu; exact henc y) (by unfold maxLen; omega) (by have : (n + m) * bytes ≤ (n + m) * 16 := Nat.mul_le_mul_left _ hb; omega) hbase (fun v' w' h1 h2 => ?_)
  obtain ⟨A', c', rfl, hO⟩ := App.Own.of h1
  refine h A' c' w' (by rw [List.map_append]; exact hO) ((Mod.grown h2).mono fun i _ e => ?_)
  obtain ⟨_, ⟨rfl, _⟩ | ⟨g, rfl, _⟩⟩ := hown
  · cases e
  · have e : i = g := Option.some.inj e
    rw [e]
def LI (l : List Int) : List Value := l.map (Value.int .i32)
theorem wpAppC {w : World} {ops : Array Oper} {rest : List Oper} {o : Oper} {a : Act} {Q : Exit → Act → World → Prop} (hgd : o.guard = none) (s x : Operand)
    (ho : o.op = .call { callee := .builtin .append, args := #[s, x], argTypes := #[25, 25] })
    (base : Nat) (A : Option Addr) (n c : Nat) (xs : List Int) (hs : a.eval s = .slice A n c) (hown : App.Own w base 26 A n c (LI xs))
    (A2 : Option Addr) (m c2 : Nat) (news : List Int) (hx : a.eval x = .slice A2 m c2) (hl : m = news.length) (hr : RdV w A2 (LI news)) (hnil : A2 = none → c2 = 0)
    (h63 : n + m ≤ 400000000) (hbase : base ≤ w.heap.size) (r : Nat) (hrr : n + m = r)
    (h : ∀ A' c' w', App.Own w' base 26 A' r c' (LI (xs ++ news)) → Mod (fun i => A = some ⟨i, 0, none⟩) w w' → wpList Try.prog ops Q rest (a.put o.dst (.slice A' r c')) w') : wpList Try.prog ops Q (o :: rest) a w :=
  wpApp1 (Value.int .i32) (fun _ => rfl) 25 26 (.int .i32 0) 4 (by decide) Try.underlying25 (by kernel_rfl) (by kernel_rfl) rfl hgd s x ho base A n c xs hs hown A2 m c2 news hx hl hr hnil h63 hbase r hrr h
theorem wpAppW {w : World} {ops : Array Oper} {rest : List Oper} {o : Oper} {a : Act} {Q : Exit → Act → World → Prop} (hgd : o.guard = none) (s x : Operand)
    (ho : o.op = .call { callee := .builtin .append, args := #[s, x], argTypes := #[67, 67] })
    (base : Nat) (A : Option Addr) (n c : Nat) (xs : List Int) (hs : a.eval s = .slice A n c) (hown : App.Own w base 71 A n c (UZ xs))
    (A2 : Option Addr) (m c2 : Nat) (news : List Int) (hx : a.eval x = .slice A2 m c2) (hl : m = news.length) (hr : RdV w A2 (UZ news)) (hnil : A2 = none → c2 = 0)
    (h63 : n + m ≤ 400000000) (hbase : base ≤ w.heap.size) (r : Nat) (hrr : n + m = r)
    (h : ∀ A' c' w', App.Own w' base 71 A' r c' (UZ (xs ++ news)) → Mod (fun i => A = some ⟨i, 0, none⟩) w w' → wpList Try.prog ops Q rest (a.put o.dst (.slice A' r c')) w') : wpList Try.prog ops Q (o :: rest) a w :=
  wpApp1 (Value.int .u32) (fun _ => rfl) 67 71 (.int .u32 0) 4 (by decide) Try.underlying67 (by kernel_rfl) (by kernel_rfl) rfl hgd s x ho base A n c xs hs hown A2 m c2 news hx hl hr hnil h63 hbase r hrr h
/-- What a buildSlice has laid can be read. -/
theorem new_rd (w : World) (vs : List Value) (t : TypeId) : RdV (w.alloc (.cells vs.toArray t)) (some ⟨w.heap.size, 0, none⟩) vs := (Row.new w t vs).rd
theorem below_alloc_mod {B : Nat} {w w3 : World} {o : Obj} {A : Option Addr} (hB : B ≤ w.heap.size) (hA : ∀ i, A = some ⟨i, 0, none⟩ → B ≤ i) (hm : Mod (fun i => A = some ⟨i, 0, none⟩) (w.alloc o) w3) : Below B w w3 :=
  ((Below.refl B w).alloc hB o).trans (hm.below (fun i _ e => hA i e) (Nat.le_trans hB (by simp)))
theorem Own.base_le {w : World} {base n c : Nat} {t : TypeId} {A : Option Addr} {xs : List Value} (h : App.Own w base t A n c xs) : ∀ i, A = some ⟨i, 0, none⟩ → base ≤ i := fun i e => by
  obtain ⟨_, ⟨rfl, _⟩ | ⟨g, rfl, hb, _⟩⟩ := h
  · cases e
  · injection e with e; injection e with e; omega
theorem size_raw {w : World} {g a n c r : Nat} {u : Int} (c1 : w.cell? ⟨g, 1, none⟩ = some (.slice (some ⟨a, 0, none⟩) n c)) (w0 : w.cell? ⟨a, r, none⟩ = some (.int .u32 u)) (hr : r < n) (hn : n ≤ 268435456) (h0 : 0 ≤ u) (h1 : u < 4294967296) :
    Calls Try.prog 31 #[.pointer (some ⟨g, 0, none⟩), .int .i64 (r : Nat)] w fun e w' => e = .returned (.int .i64 (u / 4)) ∧ w = w' := by
  go_enter Try.func31, Try.ntmps31
  go_wp2
  go_ret
  exact ⟨rfl, rfl⟩
section
variable {w : World} {base : Nat} {q : AAd} {lim : Int} {its : List Itm}
def litAt (l : List Int) (i : Int) : Int := if i < 0 then 0 else l.getD i.toNat 0
theorem i32_u32 {y : Int} (h0 : -2147483648 ≤ y) (h1 : y ≤ 2147483647) : IntKind.i32.wrap (u32 y) = y := by rw [IntKind.wrap_i32]; unfold u32; omega
theorem lit_any (h : AR w base q lim its) (r : Int) (hr : inI r) (i : Int) (hi : inI i) : Calls Try.prog 28 #[.pointer (some ⟨q.g, 0, none⟩), .int .i64 r, .int .i64 i] w fun e w' => e = .returned (.int .i32 (litAt (get its r).l i)) ∧ w = w' := by
  have HL := Lib.hid (len_any h r hr)
  have hb : ((get its r).l.length : Int) ≤ 268435456 := by
    rcases find_cases its r with ⟨_, _, h2⟩ | ⟨k, hk, _, _, h2, h3, h4⟩
    · rw [h2]; decide
    · obtain ⟨a, n, hF, _⟩ := h.fd hk h4
      have := hF.ok.wd; have := hF.le; have := hF.nl
      rw [h2]; omega
  by_cases h0 : i < 0
  · have HE := Lib.hid (show litAt (get its r).l i = 0 from if_pos h0)
    clear h hr hi hb
    generalize (get its r).l.length = n at *
    go_enter Try.func28, Try.ntmps28
    go_wp2
    go_ret
    exact ⟨by rw [HE.out]; rfl, rfl⟩
  by_cases hn : ((get its r).l.length : Int) ≤ i
  · have HE := Lib.hid (show litAt (get its r).l i = 0 from by
      unfold litAt; rw [if_neg h0, List.getD_eq_getElem?_getD, List.getElem?_eq_none (by omega)]; rfl)
    clear h hr hi hb
    generalize (get its r).l.length = n at *
    go_enter Try.func28, Try.ntmps28
    go_wp2_with fail
    refine HL.out.mono ?_
    rintro e w1 ⟨rfl, rfl⟩
    go_wp2
    go_ret
    exact ⟨by rw [HE.out]; rfl, rfl⟩
  rcases find_cases its r with ⟨_, _, h2⟩ | ⟨k, hk, _, _, h2, h3, h4⟩
  · rw [h2] at hn
    simp [zeroItm] at hn
    omega
  obtain ⟨a, n, hF, _⟩ := h.fd hk h4
  rw [h2] at HL hn ⊢
  subst h3
  generalize its[k] = x at *
  generalize sumw (its.take k) = r at *
  obtain ⟨c1, w0, w1, w2, w3, wl, le, nl, fz, ok, _⟩ := hF
  have hw := ok.wd
  obtain ⟨j, rfl⟩ : ∃ j : Nat, i = j := ⟨i.toNat, by omega⟩
  have hjl : j < x.l.length := by omega
  have hlb := ok.l _ (List.getElem_mem hjl)
  have hc := wl j hjl
  have HE := Lib.hid (show litAt x.l (j : Int) = x.l[j] from by
    unfold litAt; rw [if_neg (by omega), List.getD_eq_getElem?_getD, Int.toNat_natCast, List.getElem?_eq_getElem hjl]; rfl)
  have e4 : IntKind.i32.wrap (u32 x.l[j]) = x.l[j] := i32_u32 hlb.1 hlb.2
  rw [HE.out]
  have hub := u32_bd x.l[j]
  generalize x.l[j]'hjl = y at *
  generalize u32 y = u at *
  have k1 : ((r + 4 + j : Nat) : Int) < (n : Int) := by omega
  have k2 : r + 4 + j < n := by omega
  have k3 : (j : Int) < (x.l.length : Int) := by omega
  clear h h2 h4 ok wl fz w0 w1 w2 w3 hk hr hi h0 hn HE hlb
  generalize x.l.length = m at *
  go_enter Try.func28, Try.ntmps28
  go_wp2_with fail
  refine HL.out.mono ?_
  rintro e w1 ⟨rfl, rfl⟩
  go_wp2
  go_ret
  exact ⟨rfl, rfl⟩
theorem lit_nil (r i : Int) (w : World) (hi : 0 ≤ i) : Calls Try.prog 28 #[.pointer none, .int .i64 r, .int .i64 i] w fun e w' => e = .returned (.int .i32 0) ∧ w = w' := by
  have HL := Lib.hid (len_nil r w)
  go_enter Try.func28, Try.ntmps28
  go_wp2_with fail
  refine HL.out.mono ?_
  rintro e w1 ⟨rfl, rfl⟩
  go_wp2
  go_ret
  exact ⟨rfl, rfl⟩
def LitsR (w : World) (l : List Int) (e : Ending) (w' : World) : Prop := ∃ A c, e = .returned (.slice A l.length c) ∧ App.Own w' w.heap.size 26 A l.length c (LI l)
theorem lits_any (h : AR w base q lim its) (r : Int) (hr : inI r) : Calls Try.prog 15 #[.pointer (some ⟨q.g, 0, none⟩), .int .i64 r] w fun e w' => LitsR w (get its r).l e w' ∧ Below w.heap.size w w' := by
  have HL := Lib.hid (len_any h r hr)
  rcases find_cases its r with ⟨_, _, h2⟩ | ⟨k, hk, _, _, h2, h3, h4⟩
  · rw [h2] at HL
    have HE := Lib.hid (show (get its r).l = [] by rw [h2]; rfl)
    clear h hr h2
    go_enter Try.func15, Try.ntmps15
    go_wp2_with fail
    refine HL.out.mono ?_
    rintro e w1 ⟨rfl, rfl⟩
    have hz : (zeroItm.l.length : Int) = 0 := rfl
    rw [show zeroItm.l.length = 0 from rfl]
    go_wp2_with fail
    go_loopw [5, 10] (fun s i wr => s = .slice none 0 0 ∧ i = .int .i64 0 ∧ w = wr) (fun _ i _ => 0)
    case atStart => exact ⟨rfl, rfl, rfl⟩
    case round =>
      obtain ⟨rfl, rfl, rfl⟩ := hrel
      go_wp2
      go_ret
      exact ⟨⟨none, 0, by rw [HE.out]; rfl, by rw [HE.out]; exact App.Own.nil _ _ _⟩, Below.refl _ _⟩
  obtain ⟨a, n, hF, _⟩ := h.fd hk h4
  rw [h2] at HL ⊢
  subst h3
  generalize its[k] = x at *
  generalize sumw (its.take k) = r at *
  have HF := Lib.hid hF
  have hw := hF.ok.wd
  have hle := hF.le
  have hnl := hF.nl
  clear h h2 h4 hk hr hF
  have HX := Lib.hid (show x.l.length = x.l.length from rfl)
  go_enter Try.func15, Try.ntmps15
  go_wp2_with fail
  refine HL.out.mono ?_
  rintro e w1 ⟨rfl, rfl⟩
  clear HL
  go_wp2_with fail
  go_loopw [5, 10] (fun s i wr => ∃ (j : Nat) (A : Option Addr) (c : Nat), j ≤ x.l.length ∧ i = .int .i64 j ∧ s = .slice A j c ∧ App.Own wr w.heap.size 26 A j c (LI (x.l.take j)) ∧ Below w.heap.size w wr) (fun _ i _ => x.l.length - (intOf i).toNat)
  case atStart => exact ⟨0, none, 0, Nat.zero_le _, rfl, rfl, App.Own.nil _ _ _, Below.refl _ _⟩
  case round =>
    obtain ⟨j, A, c, hj, rfl, rfl, hO, hb⟩ := hrel
    have HO := Lib.hid hO
    have HB := Lib.hid hb
    clear hO hb
    by_cases hlt : j < x.l.length
    · have hlb := HF.out.ok.l _ (List.getElem_mem hlt)
      have hgl := World.block_lt_of_cell? w _ HF.out.c1
      have hal := World.block_lt_of_cell? w _ (HF.out.wl j hlt)
      have c1 : wr.cell? ⟨q.g, 1, none⟩ = some (.slice (some ⟨a, 0, none⟩) n q.c) := (HB.out.cell (p := ⟨q.g, 1, none⟩) hgl).trans HF.out.c1
      have c2 : wr.cell? ⟨a, r + 4 + j, none⟩ = some (.int .u32 (u32 x.l[j])) := (HB.out.cell (p := ⟨a, r + 4 + j, none⟩) hal).trans (HF.out.wl j hlt)
      have HS := Lib.hid (show x.l.take (j + 1) = x.l.take j ++ [x.l[j]] from List.take_succ_eq_append_getElem hlt)
      have e4 : IntKind.i32.wrap (u32 x.l[j]) = x.l[j] := i32_u32 hlb.1 hlb.2
      have hub := u32_bd x.l[j]
      generalize x.l[j]'hlt = y at *
      generalize u32 y = u at *
      have k1 : ((r + 4 + j : Nat) : Int) < (n : Int) := by omega
      have k2 : r + 4 + j < n := by omega
      have k4 : j + 1 ≤ 400000000 := by omega
      clear hgl hal hlb
      go_wp2_with (at_builtin; refine wpAppC rfl _ _ rfl w.heap.size A j c (x.l.take j) rfl (HO.out.alloc _) (some ⟨wr.heap.size, 0, none⟩) 1 1 [y] rfl rfl (new_rd wr (LI [y]) _) (fun h => by cases h) k4 (by simp; have := HB.out.size; omega) (j + 1) rfl ?_; intro A3 c3 w3 hO3 hm3; have HO3 := Lib.hid hO3; have HB3 := Lib.hid (HB.out.trans (below_alloc_mod HB.out.size (Own.base_le HO.out) hm3)); clear hO3 hm3)
      go_roundw
      case rel => exact ⟨j + 1, A3, c3, by omega, by go_num, rfl, by rw [HS.out]; exact HO3.out, HB3.out⟩
      case measure => simp [intOf]; omega
    · have hjL : j = x.l.length := by omega
      have HE := Lib.hid (show x.l.take j = x.l from List.take_of_length_le (by omega))
      have HFn := Lib.hid (show LitsR w x.l (.returned (.slice A j c)) wr from ⟨A, c, by rw [hjL], by rw [← hjL]; rw [HE.out] at HO; exact HO.out⟩)
      clear hjL
      go_wp2
      go_ret
      exact ⟨HFn.out, HB.out⟩
theorem lits_nil (r : Int) (w : World) : Calls Try.prog 15 #[.pointer none, .int .i64 r] w fun e w' => e = .returned (.slice none 0 0) ∧ w = w' := by
  have HL := Lib.hid (len_nil r w)
  go_enter Try.func15, Try.ntmps15
  go_wp2_with fail
  refine HL.out.mono ?_
  rintro e w1 ⟨rfl, rfl⟩
  go_wp2_with fail
  go_loopw [5, 10] (fun s i wr => s = .slice none 0 0 ∧ i = .int .i64 0 ∧ w = wr) (fun _ i _ => 0)
  case atStart => exact ⟨rfl, rfl, rfl⟩
  case round =>
    obtain ⟨rfl, rfl, rfl⟩ := hrel
    go_wp2
    go_ret
    exact ⟨rfl, rfl⟩
end
end Go.Proofs.Ytenadnmglhghiaa.Ar
