/- What Order sorts by; slices.SortFunc by it. Conditions: the memory. -/
import Derived.Test.YtienomdennbkpaaHm
import Derived.Test.YtienomdennbkpaaSlc
import Derived.Lib.OwnBridge
import Derived.Shelf.SlSortCmp.Whole1
import Derived.Shelf.SlSortCmp.NoneTotal
import Derived.Test.YtienomdennbkpaaShelf
namespace Go.Proofs.Ytienomdennbkpaa.He
open Go.RowKit Go.Proofs.Ytienomdennbkpaa.Mem Go.Proofs.Ytienomdennbkpaa.Sl Go.Shelf
open Go.Sort (putRow mapBlock Holds grow heap_grow_old sorted_unique_holds pdq_sorts pdq SWO)
open Go.Proofs.Ytienomdennbkpaa.FnL (enc_at below_then)
set_option linter.unusedVariables false

/-- The variables, and 0. -/
abbrev VN (N : Nat) := { x : Int // 0 ≤ x ∧ x ≤ (N : Int) }
instance {N : Nat} : Inhabited (VN N) := ⟨⟨0, Int.le_refl _, by omega⟩⟩
def encV {N : Nat} (x : VN N) : Value := .int .i64 x.1
def cfV {N : Nat} (s : List Int) (x y : VN N) : Int := if kf s x.1 < kf s y.1 then -1 else 1
section
variable {N : Nat} {s : List Int}
theorem ltV (x y : VN N) : ltOf (cfV s) x y = decide (kf s x.1 < kf s y.1) := by
  unfold ltOf cfV
  exact decide_eq_decide.2 (by split <;> omega)
theorem swoV : SWO (ltOf (cfV (N := N) s)) where
  irrefl x := by rw [ltV]; simp
  trans x y z h1 h2 := by
    rw [ltV] at *; simp only [decide_eq_true_eq] at *; omega
  ntrans x y z h1 h2 := by
    rw [ltV] at *; simp only [decide_eq_false_iff_not] at *; omega
def srtV (s : List Int) (l : List (VN N)) : List (VN N) := l.mergeSort fun x y => !(ltOf (cfV s)) y x
theorem srtV_len (l : List (VN N)) : (srtV s l).length = l.length := List.length_mergeSort l
theorem srtV_perm (l : List (VN N)) : (srtV s l).Perm l := List.mergeSort_perm _ _
theorem srtV_le (l : List (VN N)) : (srtV s l).Pairwise fun x y => kf s x.1 ≤ kf s y.1 := by
  have hpw := List.pairwise_mergeSort (le := fun x y => !(ltOf (cfV (N := N) s)) y x) (fun a b c h1 h2 => by
    simp only [Bool.not_eq_true'] at *; exact swoV.ntrans _ _ _ h2 h1) (fun a b => by
    simp only [Bool.or_eq_true, Bool.not_eq_true']
    cases h : ltOf (cfV s) b a with
    | false => exact .inl rfl
    | true => exact .inr (by
        cases h2 : ltOf (cfV s) a b with
        | false => rfl
        | true => have := swoV.trans _ _ _ h h2; rw [swoV.irrefl] at this; cases this)) l
  exact hpw.imp fun {a b} h => by
    rw [ltV] at h
    simpa using h
variable {w : World}
theorem put_mod {α : Type} [Inhabited α] {enc : α → Value} {q g : Nat} {d : Array α} (os : Array Obj) : Mod (fun i => i = g) w (grow (putRow enc (Sort.ahead w q) g 0 d) os) :=
  ⟨rfl, rfl, rfl, by simp [grow, putRow, mapBlock, Sort.ahead], fun k hk hne => by
    rw [heap_grow_old _ _ (by simpa [putRow, mapBlock, Sort.ahead] using hk)]
    simp [putRow, mapBlock, Sort.ahead, Array.getElem?_modify, show g ≠ k from fun e => hne e.symm]⟩
theorem grow_below (os : Array Obj) : Below w.heap.size w (grow w os) :=
  ⟨rfl, rfl, rfl, by simp [grow], fun k hk => heap_grow_old _ _ hk⟩
theorem LZ_val (l : List (VN N)) : LZ (l.map Subtype.val) = l.map encV := by
  unfold LZ; rw [List.map_map]; rfl
theorem lift_list : ∀ (l : List Int), (∀ x, x ∈ l → 1 ≤ x ∧ x ≤ (N : Int)) → ∃ l' : List (VN N), l'.map Subtype.val = l
  | [], _ => ⟨[], rfl⟩
  | x :: l, h => by
    obtain ⟨l', hl⟩ := lift_list l fun y hy => h y (List.mem_cons_of_mem _ hy)
    have := h x (List.mem_cons_self ..)
    exact ⟨⟨x, by omega, this.2⟩ :: l', by rw [List.map_cons, hl]⟩
theorem own_put {α : Type} [Inhabited α] {enc : α → Value} {base n c g q k : Nat} {t : TypeId} {l ys : List α} (h : App.Own w base t (some ⟨g, 0, none⟩) n c (l.map enc)) (hy : ys.length = n) (hk : k ≤ n) :
    App.Own (putRow enc (Sort.ahead w q) g 0 ys.toArray) base t (some ⟨g, 0, none⟩) k c ((ys.take k).map enc) := by
  have h1 := Lib.ownsRow_putRow (enc := enc) (q := q) (zs := l) h.own hy hk
  obtain ⟨A', c', e, h2⟩ := App.Own.of h1
  cases e
  exact h2
/-- The closure's value and its function: the method value before. -/
abbrev bv (q : HA) : Value := .func (.func 34) #[.pointer (some ⟨q.g, 0, none⟩)] #[]
set_option maxRecDepth 100000 in
theorem cmp_any {B bx : Nat} {q : HA} {m : HM} (h : HR w B N q m) (hc : w.cell? ⟨bx, 0, none⟩ = some (bv q)) (a b : VN N) :
    Calls Try.prog 36 #[.int .i64 a.1, .int .i64 b.1, .pointer (some ⟨bx, 0, none⟩)] w fun e w' => e = .returned (.int .i64 (cfV m.s a b)) ∧ ∃ k, w' = w.drewN k := by
  obtain ⟨a, ha0, ha1⟩ := a
  obtain ⟨b, hb0, hb1⟩ := b
  have hN := h.hN
  obtain ⟨x, rfl⟩ : ∃ x : Nat, a = x := ⟨a.toNat, by omega⟩
  obtain ⟨y, rfl⟩ : ∃ y : Nat, b = y := ⟨b.toNat, by omega⟩
  have HB := Lib.hid (before_any h x y (by omega) (by omega))
  rw [bef_kf m.s (by omega) (by omega)] at HB
  have HE := Lib.hid (show cfV m.s (⟨(x : Int), ha0, ha1⟩ : VN N) ⟨(y : Int), hb0, hb1⟩ = if kf m.s x < kf m.s y then -1 else 1 from rfl)
  clear h
  by_cases hlt : kf m.s (x : Int) < kf m.s (y : Int)
  · rw [decide_eq_true hlt] at HB
    rw [if_pos hlt] at HE
    clear hlt
    go_enter Try.func36, Try.ntmps36
    go_wp2_with fail
    refine HB.out.mono ?_
    rintro e w1 ⟨rfl, nd, rfl⟩
    go_wp2
    go_ret
    exact ⟨by rw [HE.out]; rfl, nd, rfl⟩
  · rw [decide_eq_false hlt] at HB
    rw [if_neg hlt] at HE
    clear hlt
    go_enter Try.func36, Try.ntmps36
    go_wp2_with fail
    refine HB.out.mono ?_
    rintro e w1 ⟨rfl, nd, rfl⟩
    go_wp2
    go_ret
    exact ⟨by rw [HE.out]; rfl, nd, rfl⟩
abbrev cv (bx : Nat) : Value := .func (.func 36) #[] #[.pointer (some ⟨bx, 0, none⟩)]
theorem len_bits (n : Nat) (hn : n ≤ 1048576) (w : World) : Calls Try.prog 52 #[.int .u64 (n : Int)] w fun e w' => e = .returned (.int .i64 (Lib.bitLen n : Nat)) ∧ w' = w := by
  have h := Any.bits_Len (SlLaysF0.n15.bits (P := Try.prog) (ρ := Try.pdqL_ren) { Try.pdqL with }) (n : Int) w (by omega) (by omega)
  rw [Int.toNat_natCast] at h
  exact h
theorem sort_none {base c bx : Nat} {A : Option Addr} (hO : App.Own w base 3 A 0 c []) :
    Calls Try.prog 35 #[.slice A 0 c, cv bx] w fun e w' => e = .returned (.tuple #[]) ∧ w = w' := by
  have HL := Lib.hid (len_bits 0 (by omega) w)
  have hp : ∀ lim : Int, Calls Try.prog 51 #[.slice A 0 c, .int .i64 0, .int .i64 0, .int .i64 lim, cv bx] w fun e w' => e = .returned (.tuple #[]) ∧ w' = w := fun lim =>
    AnyF.pdqsortCmpFunc_none (P := Try.prog) (ρ := Try.pdqL_ren) { Try.pdqL with } A c lim _ w
  have HP := Lib.hid hp
  clear hp hO
  go_enter Try.func35, Try.ntmps35
  go_wp2_with fail
  refine HL.out.mono ?_
  rintro e w1 ⟨rfl, rfl⟩
  go_wp2_with fail
  refine (HP.out _).mono ?_
  rintro e w1 ⟨rfl, rfl⟩
  go_wp2
  go_end0
  exact ⟨rfl, rfl⟩
theorem sort_any {base B g n c bx : Nat} {q : HA} {m : HM} {l : List (VN N)} (hO : App.Own w base 3 (some ⟨g, 0, none⟩) n c (l.map encV)) (hn : n ≤ 1048576)
    (h : HR w B N q m) (hc : w.cell? ⟨bx, 0, none⟩ = some (bv q)) (hgx : g ≠ bx) (hgq : ¬ mine q g) :
    Calls Try.prog 35 #[.slice (some ⟨g, 0, none⟩) n c, cv bx] w fun e w' => e = .returned (.tuple #[]) ∧ App.Own w' base 3 (some ⟨g, 0, none⟩) n c ((srtV m.s l).map encV) ∧ Mod (fun i => i = g) w w' := by
  have hN := h.hN
  have eg : ∀ args w, (callFunc 36 args).run Try.prog w = .ok (.enter 36 args) w := enters_of Try.func36 (by kernel_rfl) rfl
  have hcl : CmpLays1 Try.prog 36 #[.pointer (some ⟨bx, 0, none⟩)] encV (cfV m.s) g 0 l.toArray.size w := fun k os dk hs x y => by
    have hmd : Mod (fun i => i = g) w (sortWorld (encV (N := N)) w g 0 k dk os) := put_mod os
    have hc' : (sortWorld encV w g 0 k dk os).cell? ⟨bx, 0, none⟩ = some (bv q) := (World.cell?_of_block (hmd.block bx (World.block_lt_of_cell? w _ hc) (fun e => hgx e.symm))).trans hc
    exact (cmp_any (h.mod hmd (fun i hi e => hgq (by rw [← e]; exact hi))) hc' x y).mono fun e w' ⟨he, nd, hw⟩ => ⟨he, nd, #[], by rw [hw, Go.Sort.grow_empty]⟩
  obtain ⟨g', cap, e, h1, h2, h3, h4, h5, h6⟩ := Lib.holds_of_ownsRow (enc := encV (N := N)) (zs := l) hO.own (by simp)
  cases e
  have hsz : l.toArray.size = n := by simpa using h5
  have hp := Any.pdqsortCmpFunc_all (P := Try.prog) (ρ := Try.pdqL_ren) Try.pdqL encV (cfV m.s) 36 #[.pointer (some ⟨bx, 0, none⟩)] swoV g 0 c l.toArray w eg hcl ⟨fun _ => rfl, h6, h2⟩ (l.toArray.size + 1) 0 l.toArray.size (Lib.bitLen l.toArray.size) l.toArray w (by omega) rfl (SW.start h6) (Nat.zero_le _) (Nat.le_refl _) (by omega)
    (Nat.lt_of_le_of_lt (Lib.bitLen_le l.toArray.size 62 (by omega) (by omega)) (by omega)) (Or.inl rfl)
  rw [hsz] at hp
  have HL := Lib.hid (len_bits n hn w)
  have hpd := pdq_sorts (ltOf (cfV m.s)) swoV l.toArray 0 l.toArray.size (Lib.bitLen l.toArray.size) true true (Nat.zero_le _) (Nat.le_refl _) (Or.inl rfl)
  have htot : ∀ x y : VN N, ltOf (cfV m.s) x y = false → ltOf (cfV m.s) y x = false → x = y := fun x y k1 k2 => by
    rw [ltV] at *
    simp only [decide_eq_false_iff_not] at *
    have hx := x.2
    have hy := y.2
    exact Subtype.ext (kf_inj m.s ⟨hx.1, by omega⟩ ⟨hy.1, by omega⟩ (by omega))
  have hun := sorted_unique_holds swoV htot l.toArray _ hpd.1 hpd.2
  rw [hsz] at hun
  have hun' : pdq (ltOf (cfV m.s)) l.toArray 0 n (Lib.bitLen n) true true = (srtV m.s l).toArray := Array.toList_inj.1 (hun.trans (by simp [srtV]))
  clear hun
  have HP := Lib.hid (show Calls Try.prog 51 #[.slice (some ⟨g, 0, none⟩) n c, .int .i64 0, .int .i64 n, .int .i64 (Lib.bitLen n : Nat), cv bx] w (fun e w' => e = .returned (.tuple #[]) ∧ App.Own w' base 3 (some ⟨g, 0, none⟩) n c ((srtV m.s l).map encV) ∧ Mod (fun i => i = g) w w') from hp.mono fun e w' ⟨he, hq, os, hw⟩ => by
      refine ⟨he, ?_, ?_⟩
      · have h1 := own_put (q := hq) hO (ys := srtV m.s l) (by rw [srtV_len]; exact h5) (Nat.le_refl n)
        rw [List.take_of_length_le (by rw [srtV_len]; omega)] at h1
        have h2 := h1.below (grow_below os)
        rw [hw]
        rw [hun']
        exact h2
      · rw [hw]
        exact put_mod os)
  clear hp eg hO h6 hpd hun' hsz h1 h2 h3 h4 h5 hcl hc h
  have wr : IntKind.u64.wrap (n : Int) = n := by simp [IntKind.wrap, IntKind.bits, IntKind.signed]; omega
  go_enter Try.func35, Try.ntmps35
  go_wp2_with fail
  refine HL.out.mono ?_
  rintro e w1 ⟨rfl, rfl⟩
  go_wp2_with fail
  refine HP.out.mono ?_
  rintro e w1 ⟨rfl, h1, h2⟩
  go_wp2
  go_end0
  exact ⟨rfl, h1, h2⟩
end
end Go.Proofs.Ytienomdennbkpaa.He
