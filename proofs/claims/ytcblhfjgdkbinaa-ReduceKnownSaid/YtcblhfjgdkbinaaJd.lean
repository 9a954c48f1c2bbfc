/- Rows of records in memory; swapRange, rotate. Conditions: the memory. -/
import Derived.Test.YtcblhfjgdkbinaaJc
import Derived.BigRegion
namespace Go.Proofs.Ytcblhfjgdkbinaa.Re
open Go.RowKit Go.Proofs.Ytcblhfjgdkbinaa.Mem Go.Proofs.Ytcblhfjgdkbinaa.Sl Go.Shelf Go.Sort
open Go.Proofs.Ytcblhfjgdkbinaa.FnL (enc_at below_then)
set_option linter.unusedVariables false

/-- The row in block g holds d, and none of its cells is frozen. -/
def HK (w : World) (g : Nat) (d : Array Rc) : Prop := HoldsK encR 5 w g 0 d ∧ g < w.heap.size
section
variable {w w' : World} {g : Nat} {d : Array Rc}
theorem HK.of_block (h : HK w g d) (hb : w'.heap[g]? = w.heap[g]?) (hs : w.heap.size ≤ w'.heap.size) : HK w' g d :=
  ⟨fun j hj => ⟨(World.cell?_of_block (a := ⟨g, 0 + j, none⟩) hb).trans (h.1 j hj).1, by
    have := (h.1 j hj).2
    unfold World.frozen? at this ⊢
    rw [hb]; exact this⟩, Nat.lt_of_lt_of_le h.2 hs⟩
theorem HK.mod {S : Nat → Prop} (h : HK w g d) (hm : Mod S w w') (hS : ¬ S g) : HK w' g d := h.of_block (hm.block g h.2 hS) hm.size
theorem HK.below (h : HK w g d) (hb : Below w.heap.size w w') : HK w' g d := h.of_block (hb.block g h.2) hb.size
theorem HK.drew (h : HK w g d) : HK w.drew g d := h
theorem HK.cell (h : HK w g d) {i : Nat} (hi : i < d.size) {c : Nat} {v : Value} (hc : (encR d[i]!)[c]? = some v) : w.cell? ⟨g, i * 5 + c, none⟩ = some v := by
  have := HoldsK.cells h.1 encR_len hi c v hc
  rw [Nat.zero_add, Go.WideShapes.add_plain] at this
  exact this
theorem HK.cells5 (h : HK w g d) {i : Nat} (hi : i < d.size) : w.cell? ⟨g, i * 5, none⟩ = some (.int .i64 d[i]!.id) ∧ w.cell? ⟨g, i * 5 + 1, none⟩ = some (.int .i64 d[i]!.lbd) ∧ w.cell? ⟨g, i * 5 + 2, none⟩ = some (.int .i64 d[i]!.size) ∧ w.cell? ⟨g, i * 5 + 3, none⟩ = some (.int .i64 d[i]!.used) ∧ w.cell? ⟨g, i * 5 + 4, none⟩ = some (.bool d[i]!.locked) :=
  ⟨h.cell hi (c := 0) rfl, h.cell hi (c := 1) rfl, h.cell hi (c := 2) rfl, h.cell hi (c := 3) rfl, h.cell hi (c := 4) rfl⟩
theorem HK.load (P : Program) (h : HK w g d) {i : Nat} (hi : i < d.size) : Sem.run P (loadCellsFrom ⟨g, i * 5, none⟩ 0 5 #[]) w = .ok (encR d[i]!).toArray w := by
  have := run_loadCellsFrom_list P w ⟨g, 0 + i * 5, none⟩ (encR d[i]!) 5 rfl (HoldsK.cells h.1 encR_len hi)
  rwa [Nat.zero_add] at this
theorem bnd5 {i n : Nat} (h : i < n) : i * 5 + 5 ≤ n * 5 := by omega
/-- The exchange of two. -/
theorem HK.swap (P : Program) (h : HK w g d) {i j : Nat} (hi : i < d.size) (hj : j < d.size) :
    Sem.run P (storeCells ⟨g, i * 5, none⟩ (encR d[j]!) 0) w = .ok () (w.setCells g (i * 5) (encR d[j]!)) ∧
    Sem.run P (storeCells ⟨g, j * 5, none⟩ (encR d[i]!) 0) (w.setCells g (i * 5) (encR d[j]!)) = .ok () ((w.setCells g (i * 5) (encR d[j]!)).setCells g (j * 5) (encR d[i]!)) ∧
    HK ((w.setCells g (i * 5) (encR d[j]!)).setCells g (j * 5) (encR d[i]!)) g (swp d i j) ∧ Mod (fun k => k = g) w ((w.setCells g (i * 5) (encR d[j]!)).setCells g (j * 5) (encR d[i]!)) := by
  have s1 := stores_of_holds P h.1 (i * 5) (encR d[j]!) (by rw [encR_len, size_flatK]; exact bnd5 hi) (encR_one _)
  have s2 := stores_of_holds P (holds_setCells_c h.1 (i * 5) (encR d[j]!) (by rw [encR_len, size_flatK]; exact bnd5 hi)) (j * 5) (encR d[i]!) (by rw [encR_len, size_setMany, size_flatK]; exact bnd5 hj) (encR_one _)
  have e : (w.setCells g (0 + i * 5) (encR d[j]!)).setCells g (0 + j * 5) (encR d[i]!) = putRowK encR 5 w g 0 (swp d i j) := by
    have := putRowK_swp encR 5 encR_len w g 0 d i j hi hj
    rwa [putRowK_self encR 5 w g 0 d h.1] at this
  rw [Nat.zero_add] at s1 s2 e
  rw [Nat.zero_add] at s2 e
  refine ⟨s1, s2, ?_, ?_⟩
  · rw [e]
    exact ⟨holdsK_putRowK encR 5 w g 0 d _ h.1 (size_swp d i j), by rw [size_putRowK]; exact h.2⟩
  · rw [e]
    exact ⟨rfl, rfl, rfl, by rw [size_putRowK]; exact Nat.le_refl _, fun k hk hn => by
      unfold putRowK putRow mapBlock
      rw [Array.getElem?_modify]
      rw [if_neg (fun e => hn e.symm)]⟩
end
abbrev cmpV : Value := .func (.func 19) #[] #[]
/-- What the sort's texts ask of the program: their types; k = a record's cells. -/
structure PK (P : Program) (k : Nat) : Prop where
  mixed : P.follows .mixedOrders = true
  t0 : P.underlying 0 = some (TypeDesc.tuple #[])
  a0 : ∀ w, (isAgg 0).run P w = .ok false w
  z0 : ∀ w, (Go.sizeOf 0).run P w = .ok 1 w
  v0 : ∀ w, (zeroValue 0).run P w = .ok (Value.tuple #[]) w
  t3 : P.underlying 3 = some (TypeDesc.int IntKind.i64)
  a3 : ∀ w, (isAgg 3).run P w = .ok false w
  z3 : ∀ w, (Go.sizeOf 3).run P w = .ok 1 w
  v3 : ∀ w, (zeroValue 3).run P w = .ok (Value.int IntKind.i64 0) w
  t4 : P.underlying 4 = some (TypeDesc.bool)
  a4 : ∀ w, (isAgg 4).run P w = .ok false w
  z4 : ∀ w, (Go.sizeOf 4).run P w = .ok 1 w
  v4 : ∀ w, (zeroValue 4).run P w = .ok (Value.bool false) w
  t22 : P.underlying 23 = some (TypeDesc.slice 28)
  a22 : ∀ w, (isAgg 23).run P w = .ok false w
  z22 : ∀ w, (Go.sizeOf 23).run P w = .ok 1 w
  v22 : ∀ w, (zeroValue 23).run P w = .ok (Value.slice none 0 0) w
  t62 : P.underlying 62 = some (TypeDesc.int IntKind.u64)
  a62 : ∀ w, (isAgg 62).run P w = .ok false w
  z62 : ∀ w, (Go.sizeOf 62).run P w = .ok 1 w
  v62 : ∀ w, (zeroValue 62).run P w = .ok (Value.int IntKind.u64 0) w
  aE : ∀ w, (isAgg 28).run P w = .ok true w
  zE : ∀ w, (Go.sizeOf 28).run P w = .ok k w
set_option maxRecDepth 100000 in
set_option maxHeartbeats 2000000 in
theorem swapRange_gen {P : Program} {q : Nat} (L : PK P q) (hq : q = 5) (F : P.funcs[34]? = some Try.f34) (d : Array Rc) (c g a b n : Nat) (cv : Value) {w : World} (h : HK w g d) (hab : a + n ≤ b) (hb : b + n ≤ d.size) (hm : d.size ≤ 1000000) :
    Calls P 34 #[.slice (some ⟨g, 0, none⟩) d.size c, .int .i64 a, .int .i64 b, .int .i64 n, cv] w fun e w' =>
      e = .returned (.tuple #[]) ∧ Mod (fun k => k = g) w w' ∧ ∃ d', HK w' g d' ∧ PermIn a (b + n) d d' ∧ ∀ k, d'[k]! = if a ≤ k ∧ k < a + n then d[k + (b - a)]! else if b ≤ k ∧ k < b + n then d[k - (b - a)]! else d[k]! := by
  have mixed := L.mixed; have t0 := L.t0; have a0 := L.a0; have z0 := L.z0; have v0 := L.v0; have t3 := L.t3; have a3 := L.a3; have z3 := L.z3; have v3 := L.v3; have t4 := L.t4; have a4 := L.a4; have z4 := L.z4; have v4 := L.v4; have t22 := L.t22; have a22 := L.a22; have z22 := L.z22; have v22 := L.v22; have aE := L.aE; have zE := L.zE
  have u22 := run_underlying L.t22
  clear L
  have HQ := Lib.hid hq
  clear hq
  have H := Lib.hid h
  clear h
  obtain ⟨N, hN⟩ : ∃ N, N = d.size := ⟨_, rfl⟩
  have HN := Lib.hid hN
  rw [← hN] at hb hm ⊢
  clear hN
  go_enter F, Try.ntmps34
  go_wp2
  go_loopw [10] (fun i wr => ∃ (k : Nat) (dk : Array Rc), k ≤ n ∧ i = .int .i64 k ∧ HK wr g dk ∧ Mod (fun j => j = g) w wr ∧ PermIn a (b + n) d dk ∧ ∀ x, dk[x]! = if a ≤ x ∧ x < a + k then d[x + (b - a)]! else if b ≤ x ∧ x < b + k then d[x - (b - a)]! else d[x]!) (fun i _ => n - (intOf i).toNat)
  case atStart => exact ⟨0, d, Nat.zero_le _, rfl, H.out, Mod.refl _ _, permIn_refl _ _ _, fun x => by rw [if_neg (by omega), if_neg (by omega)]⟩
  case round =>
    obtain ⟨k, dk, hk, rfl, hH, hM, hP, hd⟩ := hrel
    have HH := Lib.hid hH
    have HM := Lib.hid hM
    have HP := Lib.hid hP
    have HD := Lib.hid hd
    have HS := Lib.hid hP.1
    clear hH hM hP hd
    by_cases hlt : k < n
    · have i1 : a + k < dk.size := by have := HN.out; have := HS.out; omega
      have i2 : b + k < dk.size := by have := HN.out; have := HS.out; omega
      obtain ⟨s1, s2, h3, h4⟩ := HK.swap P HH.out.drew i1 i2
      have l1 := HH.out.drew.load P i1
      have l2 := HH.out.drew.load P i2
      have H3 := Lib.hid h3
      have H4 := Lib.hid h4
      have e1 : (encR dk[a + k]!).length = q := by rw [HQ.out]; rfl
      have e2 : (encR dk[b + k]!).length = q := by rw [HQ.out]; rfl
      rw [← HQ.out] at s1 s2 l1 l2 H3 H4
      clear h3 h4 i1 i2
      generalize encR dk[a + k]! = cJ at *
      generalize encR dk[b + k]! = cP at *
      go_wp2
      go_big_region_o
      all_goals go_wp2
      go_roundw
      case rel =>
        refine ⟨k + 1, swp dk (a + k) (b + k), by omega, by go_num, H3.out, HM.out.then_ ((Mod.refl _ _).drew.then_ H4.out), permIn_trans _ _ _ _ _ HP.out (swp_permIn _ _ _ _ _ (by omega) (by omega) (by omega) (by omega) (by have := HN.out; have := HS.out; omega)), fun x => ?_⟩
        have hN := HN.out
        have hS := HS.out
        by_cases x1 : x = a + k
        · subst x1
          rw [swp_left _ _ _ (by omega) (by omega), HD.out, if_neg (by omega), if_neg (by omega), if_pos ⟨by omega, by omega⟩]
          congr 1; omega
        · by_cases x2 : x = b + k
          · subst x2
            rw [swp_right _ _ _ (by omega), HD.out, if_neg (by omega), if_neg (by omega), if_neg (by omega), if_pos ⟨by omega, by omega⟩]
            congr 1; omega
          · rw [swp_other _ _ _ _ x1 x2, HD.out]
            by_cases x3 : a ≤ x ∧ x < a + k
            · rw [if_pos x3, if_pos ⟨by omega, by omega⟩]
            · rw [if_neg x3]
              by_cases x4 : b ≤ x ∧ x < b + k
              · rw [if_pos x4, if_neg (show ¬ (a ≤ x ∧ x < a + (k + 1)) by omega), if_pos ⟨by omega, by omega⟩]
              · rw [if_neg x4, if_neg (show ¬ (a ≤ x ∧ x < a + (k + 1)) by omega), if_neg (by omega)]
      case measure => simp [intOf]; omega
    · obtain rfl : k = n := by omega
      go_wp2
      go_end0
      exact ⟨rfl, HM.out, dk, HH.out, HP.out, HD.out⟩
end Go.Proofs.Ytcblhfjgdkbinaa.Re
