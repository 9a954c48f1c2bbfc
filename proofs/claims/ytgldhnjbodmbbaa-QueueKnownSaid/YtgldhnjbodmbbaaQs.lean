/- slices.SortFunc of a row of one's own by a map's answers; slices.Compact. Conditions: the memory, at most a million variables. -/
import Derived.Test.YtgldhnjbodmbbaaQh
import Derived.Test.YtgldhnjbodmbbaaSlc
import Derived.Lib.OwnBridge
import Derived.Shelf.SlSortCmp.Whole1
import Derived.Shelf.SlicesE.Compact
import Derived.Test.YtgldhnjbodmbbaaShelf
namespace Go.Proofs.Ytgldhnjbodmbbaa.Qu
open Go.RowKit Go.Proofs.Ytgldhnjbodmbbaa.Mem Go.Proofs.Ytgldhnjbodmbbaa.Sl Go.Shelf
open Go.Sort (putRow mapBlock Holds grow heap_grow_old sorted_unique_holds pdq_sorts pdq SWO)
open Go.Proofs.Ytgldhnjbodmbbaa.FnL (enc_at below_then)
set_option linter.unusedVariables false

/-- The variables. -/
abbrev VN (N : Nat) := { x : Int // 1 ≤ x ∧ x ≤ (N : Int) }
def encV {N : Nat} (x : VN N) : Value := .int .i64 x.1
def cfV {N : Nat} (f : Int → Int) (x y : VN N) : Int := f x.1 - f y.1
section
variable {N : Nat} {f : Int → Int}
theorem ltV (x y : VN N) : ltOf (cfV f) x y = decide (f x.1 < f y.1) := by
  unfold ltOf cfV
  exact decide_eq_decide.2 (by omega)
theorem swoV : SWO (ltOf (cfV (N := N) f)) where
  irrefl x := by rw [ltV]; simp
  trans x y z h1 h2 := by
    rw [ltV] at *; simp only [decide_eq_true_eq] at *; omega
  ntrans x y z h1 h2 := by
    rw [ltV] at *; simp only [decide_eq_false_iff_not] at *; omega
def srtV (f : Int → Int) (l : List (VN N)) : List (VN N) := l.mergeSort fun x y => !(ltOf (cfV f)) y x
theorem srtV_len (l : List (VN N)) : (srtV f l).length = l.length := List.length_mergeSort l
theorem srtV_mem (l : List (VN N)) (x : VN N) : x ∈ srtV f l ↔ x ∈ l := List.mem_mergeSort
theorem srtV_le (l : List (VN N)) : (srtV f l).Pairwise fun x y => f x.1 ≤ f y.1 := by
  have hpw := List.pairwise_mergeSort (le := fun x y => !(ltOf (cfV (N := N) f)) y x) (fun a b c h1 h2 => by
    simp only [Bool.not_eq_true'] at *; exact swoV.ntrans _ _ _ h2 h1) (fun a b => by
    simp only [Bool.or_eq_true, Bool.not_eq_true']
    cases h : ltOf (cfV f) b a with
    | false => exact .inl rfl
    | true => exact .inr (by
        cases h2 : ltOf (cfV f) a b with
        | false => rfl
        | true => have := swoV.trans _ _ _ h h2; rw [swoV.irrefl] at this; cases this)) l
  exact hpw.imp fun {a b} h => by
    rw [ltV] at h
    simpa using h
variable {w : World}
theorem put_mod {α : Type} [Inhabited α] {enc : α → Value} {q g : Nat} {d : Array α} (os : Array Obj) : Mod (fun i => i = g) w (grow (putRow enc (Sort.ahead w q) g 0 d) os) :=
  ⟨rfl, rfl, rfl, by simp [grow, putRow, mapBlock, Sort.ahead], fun k hk hne => by
    rw [heap_grow_old _ _ (by simpa [putRow, mapBlock, Sort.ahead] using hk)]
    simp [putRow, mapBlock, Sort.ahead, Array.getElem?_modify, show g ≠ k from fun e => hne e.symm]⟩
theorem grow_below (os : Array Obj) : Below w.heap.size w (grow w os) :=
  ⟨rfl, rfl, rfl, by simp [grow], fun k hk => heap_grow_old _ _ hk⟩
theorem LZ_val (l : List (VN N)) : LZ (l.map Subtype.val) = l.map encV := by
  unfold LZ; rw [List.map_map]; rfl
theorem own_put {α : Type} [Inhabited α] {enc : α → Value} {base n c g q k : Nat} {t : TypeId} {l ys : List α} (h : App.Own w base t (some ⟨g, 0, none⟩) n c (l.map enc)) (hy : ys.length = n) (hk : k ≤ n) :
    App.Own (putRow enc (Sort.ahead w q) g 0 ys.toArray) base t (some ⟨g, 0, none⟩) k c ((ys.take k).map enc) := by
  have h1 := Lib.ownsRow_putRow (enc := enc) (q := q) (zs := l) h.own hy hk
  obtain ⟨A', c', e, h2⟩ := App.Own.of h1
  cases e
  exact h2
theorem sort_any [Inhabited (VN N)] {base g n c bx b k : Nat} {l : List (VN N)} (hO : App.Own w base 3 (some ⟨g, 0, none⟩) n c (l.map encV)) (hn : n ≤ 1000000)
    (hc : w.cell? ⟨bx, 0, none⟩ = some (.map (some b))) (hm : MapI w b k f) (hf : ∀ x : VN N, 0 ≤ f x.1 ∧ f x.1 ≤ 1048576) (hinj : ∀ x y : VN N, f x.1 = f y.1 → x = y) (hgx : g ≠ bx) (hgb : g ≠ b) (hN : N ≤ 1048576) :
    Calls Try.prog 25 #[.slice (some ⟨g, 0, none⟩) n c, .func (.func 26) #[] #[.pointer (some ⟨bx, 0, none⟩)]] w fun e w' => e = .returned (.tuple #[]) ∧ App.Own w' base 3 (some ⟨g, 0, none⟩) n c ((srtV f l).map encV) ∧ Mod (fun i => i = g) w w' := by
  have eg : ∀ args w, (callFunc 26 args).run Try.prog w = .ok (.enter 26 args) w := enters_of Try.func26 (by kernel_rfl) rfl
  have hl : Calls Try.prog 36 #[.int .u64 (n : Int)] w fun e w' => e = .returned (.int .i64 (Lib.bitLen n : Nat)) ∧ w' = w := by
    have h := Any.bits_Len (SlLaysF0.n15.bits (P := Try.prog) (ρ := Try.pdqL_ren) { Try.pdqL with }) (n : Int) w (by omega) (by omega)
    rw [Int.toNat_natCast] at h
    exact h
  have hcl : CmpLays1 Try.prog 26 #[.pointer (some ⟨bx, 0, none⟩)] encV (cfV f) g 0 l.toArray.size w := fun m os dk hs x y => by
    have hmd : Mod (fun i => i = g) w (sortWorld (encV (N := N)) w g 0 m dk os) := put_mod os
    have hc' : (sortWorld encV w g 0 m dk os).cell? ⟨bx, 0, none⟩ = some (.map (some b)) := (World.cell?_of_block (hmd.block bx (World.block_lt_of_cell? w _ hc) (fun e => hgx e.symm))).trans hc
    exact (cmp_any hc' (hm.mod hmd (fun e => hgb e.symm)) x.1 y.1 ⟨by have := x.2; omega, by have := x.2; omega⟩ ⟨by have := y.2; omega, by have := y.2; omega⟩ (hf x) (hf y)).mono fun e w' ⟨he, hw⟩ => ⟨he, 0, #[], by rw [← hw, Go.Sort.grow_empty]; rfl⟩
  obtain ⟨g', cap, e, h1, h2, h3, h4, h5, h6⟩ := Lib.holds_of_ownsRow (enc := encV (N := N)) (zs := l) hO.own (by simp)
  cases e
  have hsz : l.toArray.size = n := by simpa using h5
  have hp := Any.pdqsortCmpFunc_all (P := Try.prog) (ρ := Try.pdqL_ren) Try.pdqL encV (cfV f) 26 #[.pointer (some ⟨bx, 0, none⟩)] swoV g 0 c l.toArray w eg hcl ⟨fun _ => rfl, h6, h2⟩ (l.toArray.size + 1) 0 l.toArray.size (Lib.bitLen l.toArray.size) l.toArray w (by omega) rfl (SW.start h6) (Nat.zero_le _) (Nat.le_refl _) (by omega)
    (Nat.lt_of_le_of_lt (Lib.bitLen_le l.toArray.size 62 (by omega) (by omega)) (by omega)) (Or.inl rfl)
  rw [hsz] at hp
  have HL := Lib.hid hl
  have hpd := pdq_sorts (ltOf (cfV f)) swoV l.toArray 0 l.toArray.size (Lib.bitLen l.toArray.size) true true (Nat.zero_le _) (Nat.le_refl _) (Or.inl rfl)
  have htot : ∀ x y : VN N, ltOf (cfV f) x y = false → ltOf (cfV f) y x = false → x = y := fun x y k1 k2 => hinj x y (by rw [ltV] at *; simp only [decide_eq_false_iff_not] at *; omega)
  have hun := sorted_unique_holds swoV htot l.toArray _ hpd.1 hpd.2
  rw [hsz] at hun
  have hun' : pdq (ltOf (cfV f)) l.toArray 0 n (Lib.bitLen n) true true = (srtV f l).toArray := Array.toList_inj.1 (hun.trans (by simp [srtV]))
  clear hun
  have HP := Lib.hid (show Calls Try.prog 35 #[.slice (some ⟨g, 0, none⟩) n c, .int .i64 0, .int .i64 n, .int .i64 (Lib.bitLen n : Nat), .func (.func 26) #[] #[.pointer (some ⟨bx, 0, none⟩)]] w (fun e w' => e = .returned (.tuple #[]) ∧ App.Own w' base 3 (some ⟨g, 0, none⟩) n c ((srtV f l).map encV) ∧ Mod (fun i => i = g) w w') from hp.mono fun e w' ⟨he, hq, os, hw⟩ => by
      refine ⟨he, ?_, ?_⟩
      · have h1 := own_put (q := hq) hO (ys := srtV f l) (by rw [srtV_len]; exact h5) (Nat.le_refl n)
        rw [List.take_of_length_le (by rw [srtV_len]; omega)] at h1
        have h2 := h1.below (grow_below os)
        rw [hw]
        rw [hun']
        exact h2
      · rw [hw]
        exact put_mod os)
  clear hp eg hO h6 hpd hun' hsz h1 h2 h3 h4 h5 hcl hc hm
  have wr : IntKind.u64.wrap (n : Int) = n := by simp [IntKind.wrap, IntKind.bits, IntKind.signed]; omega
  go_enter Try.func25, Try.ntmps25
  go_wp2_with fail
  refine HL.out.mono ?_
  rintro e w1 ⟨rfl, rfl⟩
  go_wp2_with fail
  refine HP.out.mono ?_
  rintro e w1 ⟨rfl, h1, h2⟩
  go_wp2
  go_end0
  exact ⟨rfl, h1, h2⟩
theorem compact_any {base g n c : Nat} {zs : List Int} (hO : App.Own w base 3 (some ⟨g, 0, none⟩) n c (LZ zs)) (hn : n ≤ 1000000) :
    Calls Try.prog 27 #[.slice (some ⟨g, 0, none⟩) n c] w fun e w' => e = .returned (.slice (some ⟨g, 0, none⟩) (Lib.compact zs).length c) ∧ App.Own w' base 3 (some ⟨g, 0, none⟩) (Lib.compact zs).length c (LZ (Lib.compact zs)) ∧ Mod (fun i => i = g) w w' := by
  obtain ⟨g', cap, e, h1, h2, h3, h4, h5, h6⟩ := Lib.holds_of_ownsRow (enc := Value.int .i64) (zs := zs) hO.own (by simp)
  cases e
  have hle := Lib.compact_length_le zs
  have h0 := Try.slices_Compact_int g 0 c zs w h6 (by omega) (by omega)
  rw [h5] at h0
  refine h0.mono ?_
  rintro e w' ⟨he, q, hw⟩
  refine ⟨he, ?_, ?_⟩
  · have h7 := own_put (enc := Value.int .i64) (q := q) (l := zs) hO (ys := Lib.compact zs ++ List.replicate (n - (Lib.compact zs).length) 0) (by simp; omega) (show (Lib.compact zs).length ≤ n by omega)
    rw [List.take_append_of_le_length (Nat.le_refl _), List.take_length] at h7
    rw [hw]
    exact h7
  · rw [hw]
    have := put_mod (w := w) (enc := Value.int .i64) (q := q) (g := g) (d := (Lib.compact zs ++ List.replicate (n - (Lib.compact zs).length) 0).toArray) #[]
    rw [Go.Sort.grow_empty] at this
    exact this
end
end Go.Proofs.Ytgldhnjbodmbbaa.Qu
