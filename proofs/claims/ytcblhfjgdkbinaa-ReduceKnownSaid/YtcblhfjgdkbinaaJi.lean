/- Rows of records as lists; slices.Clone, IndexFunc, DeleteFunc of them. Conditions: the memory. -/
import Derived.Test.YtcblhfjgdkbinaaJh
import Derived.Test.YtcblhfjgdkbinaaSr
namespace Go.Proofs.Ytcblhfjgdkbinaa.Re
open Go.RowKit Go.Proofs.Ytcblhfjgdkbinaa.Mem Go.Proofs.Ytcblhfjgdkbinaa.Sl Go.Shelf Go.Sort Go.Proofs.Ytcblhfjgdkbinaa.Sr
open Go.Proofs.Ytcblhfjgdkbinaa.FnL (enc_at below_then)
set_option linter.unusedVariables false

def RCs (l : List Rc) : List Value := l.flatMap encR
theorem RCs_len (l : List Rc) : (RCs l).length = l.length * 5 := by
  induction l with
  | nil => rfl
  | cons x t ih =>
    show (encR x ++ RCs t).length = _
    rw [List.length_append, ih, encR_len, List.length_cons]; omega
theorem RCs_append (a b : List Rc) : RCs (a ++ b) = RCs a ++ RCs b := List.flatMap_append
theorem RCs_one : ∀ (l : List Rc), ∀ u ∈ RCs l, u.oneCell' = true := fun l u hu => by
  obtain ⟨x, _, hx⟩ := List.mem_flatMap.1 hu
  exact encR_one x u hx
theorem RCs_at : ∀ (l : List Rc) (i j : Nat), i < l.length → j < 5 → (RCs l)[i * 5 + j]? = (encR l[i]!)[j]?
  | [], i, j, h, _ => absurd h (Nat.not_lt_zero _)
  | x :: t, 0, j, _, hj => by
    show (encR x ++ RCs t)[0 * 5 + j]? = (encR x)[j]?
    rw [Nat.zero_mul, Nat.zero_add, List.getElem?_append_left (by rw [encR_len]; exact hj)]
  | x :: t, i + 1, j, h, hj => by
    show (encR x ++ RCs t)[(i + 1) * 5 + j]? = (encR (x :: t)[i + 1]!)[j]?
    rw [List.getElem?_append_right (by rw [encR_len]; omega), encR_len, show (i + 1) * 5 + j - 5 = i * 5 + j by omega, RCs_at t i j (by simpa using h) hj]
    simp
theorem arr_get (l : List Rc) (i : Nat) : (l.toArray)[i]! = l[i]! := by simp
theorem arr_to (d : Array Rc) (i : Nat) : d.toList[i]! = d[i]! := by cases d; simp
theorem flat_at (d : Array Rc) (i j : Nat) (hi : i < d.size) (hj : j < 5) : (flatK encR 5 d)[i * 5 + j]! = (encR d[i]!)[j]! := by
  rw [get_flatK _ _ _ _ (by omega), show (i * 5 + j) / 5 = i by omega, show (i * 5 + j) % 5 = j by omega]
section
variable {w w' : World} {g : Nat} {d : Array Rc}
theorem HK.of_cells (hg : g < w.heap.size) (h : ∀ i j, i < d.size → j < 5 → w.cell? ⟨g, i * 5 + j, none⟩ = (encR d[i]!)[j]?) (hf : ∀ j, w.frozen? ⟨g, j, none⟩ = false) : HK w g d := by
  refine ⟨fun t ht => ?_, hg⟩
  rw [size_flatK] at ht
  have e := h (t / 5) (t % 5) (by omega) (Nat.mod_lt _ (by decide))
  rw [show t / 5 * 5 + t % 5 = t by omega] at e
  rw [Nat.zero_add, get_flatK _ _ _ _ ht, e]
  refine ⟨?_, hf t⟩
  have hl : t % 5 < (encR d[t / 5]!).length := by rw [encR_len]; exact Nat.mod_lt _ (by decide)
  rw [List.getElem?_eq_getElem hl, getElem!_pos (encR d[t / 5]!) (t % 5) hl]; rfl
theorem HK.at_ (h : HK w g d) {i j : Nat} (hi : i < d.size) (hj : j < 5) : w.cell? ⟨g, i * 5 + j, none⟩ = (encR d[i]!)[j]? := by
  have hl : j < (encR d[i]!).length := by rw [encR_len]; exact hj
  rw [List.getElem?_eq_getElem hl]
  exact h.cell hi (List.getElem?_eq_getElem hl)
theorem HK.of_row {t : TypeId} {l : List Rc} {c : Nat} (h : Row w g t (RCs l) c) : HK w g l.toArray :=
  HK.of_cells h.lt (fun i j hi hj => by
    have hi' : i < l.length := by simpa using hi
    have e := RCs_at l i j hi' hj
    rw [arr_get, ← e]
    have hl : i * 5 + j < (RCs l).length := by rw [RCs_len]; omega
    rw [List.getElem?_eq_getElem hl]
    exact h.cell (List.getElem?_eq_getElem hl)) h.frozen
theorem HK.rd (h : HK w g d) : RdV w (some ⟨g, 0, none⟩) (RCs d.toList) := fun _ => by
  refine ⟨g, 0, rfl, h.2, fun t v hv => ?_⟩
  have hl : t < (RCs d.toList).length := (List.getElem?_eq_some_iff.1 hv).1
  rw [RCs_len] at hl
  have hl' : t < d.size * 5 := by simpa using hl
  have e := RCs_at d.toList (t / 5) (t % 5) (by omega) (Nat.mod_lt _ (by decide))
  rw [show t / 5 * 5 + t % 5 = t by omega] at e
  rw [hv] at e
  have hh := h.at_ (i := t / 5) (j := t % 5) (by omega) (Nat.mod_lt _ (by decide))
  rw [show t / 5 * 5 + t % 5 = t by omega] at hh
  rw [Nat.zero_add, hh]
  rw [e, arr_to]
theorem HK.take (h : HK w g d) {k : Nat} (hk : k ≤ d.size) : HK w g (d.toList.take k).toArray := by
  refine ⟨fun t ht => ?_, h.2⟩
  rw [size_flatK] at ht
  have hs : (d.toList.take k).toArray.size = k := by simp; omega
  rw [hs] at ht
  have := h.1 t (by rw [size_flatK]; omega)
  rw [get_flatK _ _ _ _ (by omega)] at this
  rw [get_flatK _ _ _ _ (by rw [hs]; exact ht), arr_get]
  have e : (d.toList.take k)[t / 5]! = d[t / 5]! := by
    have h1 : t / 5 < d.size := by omega
    have h2 : t / 5 < (d.toList.take k).length := by simp; omega
    rw [getElem!_pos (d.toList.take k) (t / 5) h2, getElem!_pos d (t / 5) h1]
    simp
  rw [e]
  exact this
theorem setMany_put (d : Array Rc) (i : Nat) (x : Rc) (hi : i < d.size) : setMany (flatK encR 5 d) (i * 5) (encR x) = flatK encR 5 (d.setIfInBounds i x) := by
  refine ext_get! (by simp) fun t ht => ?_
  rw [size_setMany, size_flatK] at ht
  rw [get_setMany _ _ _ t (by rw [size_flatK]; exact ht), get_flatK _ _ _ t ht, get_flatK _ _ _ t (by simpa using ht), encR_len]
  by_cases a : t / 5 = i
  · rw [if_pos (by omega), getElem!_set_same' d i x hi a, show t - i * 5 = t % 5 by omega]
  · rw [if_neg (by omega), getElem!_set_other' d i x _ a]
where
  getElem!_set_same' (d : Array Rc) (i : Nat) (x : Rc) (hi : i < d.size) {k : Nat} (e : k = i) : (d.setIfInBounds i x)[k]! = x := by
    subst e; exact getElem!_set_same d k x hi
  getElem!_set_other' (d : Array Rc) (i : Nat) (x : Rc) (k : Nat) (e : ¬ k = i) : (d.setIfInBounds i x)[k]! = d[k]! := by
    by_cases hk : k < d.size
    · have hk2 : k < (d.setIfInBounds i x).size := by simpa using hk
      rw [getElem!_pos (d.setIfInBounds i x) k hk2, getElem!_pos d k hk]
      rw [Array.getElem_setIfInBounds, if_neg (fun h => e h.symm)]
    · have hk2 : ¬ k < (d.setIfInBounds i x).size := by simpa using hk
      rw [getElem!_neg (d.setIfInBounds i x) k hk2, getElem!_neg d k hk]
/-- One record stored. -/
theorem HK.put (P : Program) (h : HK w g d) {i : Nat} (hi : i < d.size) (x : Rc) :
    Sem.run P (storeCells ⟨g, i * 5, none⟩ (encR x) 0) w = .ok () (w.setCells g (i * 5) (encR x)) ∧ HK (w.setCells g (i * 5) (encR x)) g (d.setIfInBounds i x) ∧ Mod (fun k => k = g) w (w.setCells g (i * 5) (encR x)) := by
  have s1 := stores_of_holds P h.1 (i * 5) (encR x) (by rw [encR_len, size_flatK]; exact bnd5 hi) (encR_one _)
  have s2 := holds_setCells_c h.1 (i * 5) (encR x) (by rw [encR_len, size_flatK]; exact bnd5 hi)
  rw [setMany_put d i x hi] at s2
  have e : w.setCells g (0 + i * 5) (encR x) = putRowK encR 5 w g 0 (d.setIfInBounds i x) := by
    have := setCells_putRow w g 0 (encR x) (i * 5) (flatK encR 5 d) (by rw [encR_len, size_flatK]; exact bnd5 hi)
    rw [setMany_put d i x hi] at this
    have e2 := putRowK_self encR 5 w g 0 d h.1
    unfold putRowK at e2
    rw [e2] at this
    exact this
  rw [Nat.zero_add] at s1 s2 e
  have hm : Mod (fun k => k = g) w (w.setCells g (i * 5) (encR x)) := by
    rw [e]
    exact ⟨rfl, rfl, rfl, by rw [size_putRowK]; exact Nat.le_refl _, fun k hk hn => by
      unfold putRowK putRow mapBlock
      rw [Array.getElem?_modify]
      rw [if_neg (fun e => hn e.symm)]⟩
  exact ⟨s1, ⟨s2, Nat.lt_of_lt_of_le h.2 hm.size⟩, hm⟩
/-- A row's end cleared. -/
theorem HK.clear_ (h : HK w g d) {k : Nat} (hk : k ≤ d.size) (vs : List Value) (hv : vs.length = (d.size - k) * 5) : HK (w.setCells g (k * 5) vs) g (d.toList.take k).toArray ∧ Mod (fun j => j = g) w (w.setCells g (k * 5) vs) := by
  have hb : k * 5 + vs.length ≤ (flatK encR 5 d).size := by rw [hv, size_flatK]; omega
  have s2 := holds_setCells_c h.1 (k * 5) vs hb
  have e : w.setCells g (0 + k * 5) vs = putRow id w g 0 (setMany (flatK encR 5 d) (k * 5) vs) := by
    have := setCells_putRow w g 0 vs (k * 5) (flatK encR 5 d) hb
    have e2 := putRowK_self encR 5 w g 0 d h.1
    unfold putRowK at e2
    rw [e2] at this
    exact this
  rw [Nat.zero_add] at s2 e
  have hm : Mod (fun k => k = g) w (w.setCells g (k * 5) vs) := by
    rw [e]
    exact ⟨rfl, rfl, rfl, by
      unfold putRow mapBlock
      simp, fun k hk hn => by
      unfold putRow mapBlock
      rw [Array.getElem?_modify]
      rw [if_neg (fun e => hn e.symm)]⟩
  refine ⟨⟨fun t ht => ?_, Nat.lt_of_lt_of_le h.2 hm.size⟩, hm⟩
  have h0 := (h.take hk).1 t ht
  rw [size_flatK] at ht
  have hs : (d.toList.take k).toArray.size = k := by simp; omega
  rw [hs] at ht
  have h1 := s2 t (by rw [size_setMany, size_flatK]; omega)
  refine ⟨?_, h1.2⟩
  rw [h1.1, get_setMany _ _ _ t (by rw [size_flatK]; omega), if_neg (by omega)]
  exact ((h.1 t (by rw [size_flatK]; omega)).1.symm.trans h0.1)
end
theorem run_clearR (w : World) (ty : TypeId) (b o n c : Nat) (hn : 0 < n) (hc : ∀ j, j < n * 5 → (w.cell? ⟨b, o + j, none⟩).isSome = true) (hf : ∀ j, j < n * 5 → w.frozen? ⟨b, o + j, none⟩ = false) :
    ∃ vs, vs.length = n * 5 ∧ (Builtin.clear_ #[23] ty #[.slice (some ⟨b, o, none⟩) n c]).run Try.prog w = .ok (.tuple #[]) (w.setCells b o vs) := by
  have hz : ∀ w, (zeroValue 28).run Try.prog w = .ok (.agg #[.int .i64 0, .int .i64 0, .int .i64 0, .int .i64 0, .bool false]) w := Try.zeroValue28
  have hcl : (Value.agg #[.int .i64 0, .int .i64 0, .int .i64 0, .int .i64 0, .bool false]).cells = #[.int .i64 0, .int .i64 0, .int .i64 0, .int .i64 0, .bool false] := by simp [Value.cells]
  refine ⟨(Builtin.zeroCells #[.int .i64 0, .int .i64 0, .int .i64 0, .int .i64 0, .bool false] n).toList, by simp [Builtin.zeroCells], ?_⟩
  have hlen : (Builtin.zeroCells #[.int .i64 0, .int .i64 0, .int .i64 0, .int .i64 0, .bool false] n).toList.length = n * 5 := by simp [Builtin.zeroCells]
  have hst := run_storeCells_cells (P := Try.prog) b o (Builtin.zeroCells #[.int .i64 0, .int .i64 0, .int .i64 0, .int .i64 0, .bool false] n).toList 0 w (by rw [hlen]; simpa using hc) (by rw [hlen]; simpa using hf) (by
    intro v hv
    simp only [Builtin.zeroCells, Array.toList_map, List.mem_map, Array.toList_range, List.mem_range] at hv
    obtain ⟨i, hi, rfl⟩ := hv
    have : i % 5 < 5 := Nat.mod_lt _ (by decide)
    rcases (show i % 5 = 0 ∨ i % 5 = 1 ∨ i % 5 = 2 ∨ i % 5 = 3 ∨ i % 5 = 4 by omega) with e | e | e | e | e <;> simp [e] <;> rfl)
  simp only [Nat.add_zero] at hst
  obtain ⟨m, rfl⟩ : ∃ m, n = m + 1 := ⟨n - 1, by omega⟩
  simp [Builtin.clear_, run_underlying Try.underlying23, hz, hcl, hst]
/-- A row of records that was made: nil, or a block of its own. -/
def RV (w : World) (base : Nat) (l : List Rc) (e : Ending) : Prop := (l = [] ∧ e = .returned (.slice none 0 0)) ∨ ∃ g c, e = .returned (.slice (some ⟨g, 0, none⟩) l.length c) ∧ base ≤ g ∧ l.length ≤ c ∧ c ≤ maxLen ∧ HK w g l.toArray
theorem infoR : ∃ i, Try.prog.info? 28 = some i ∧ i.zero = some (.agg #[.int .i64 0, .int .i64 0, .int .i64 0, .int .i64 0, .bool false]) ∧ i.size = 5 ∧ i.bytes = 40 := by
  obtain ⟨i0, hi⟩ := Option.isSome_iff_exists.1 (show (Try.prog.info? 28).isSome = true by kernel_rfl)
  have hz : (Try.prog.info? 28).map (fun i => (i.zero, i.size, i.bytes)) = some (some (.agg #[.int .i64 0, .int .i64 0, .int .i64 0, .int .i64 0, .bool false]), 5, 40) := by kernel_rfl
  rw [hi] at hz
  injection hz with hz
  injection hz with hz0 hz
  injection hz with hz1 hz2
  exact ⟨i0, hi, hz0, hz1, hz2⟩
set_option maxHeartbeats 1000000 in
theorem clone_any {w : World} (a : Option Addr) (c : Nat) (l : List Rc) (hr : RdV w a (RCs l)) (hnil : a = none → l = []) (hmn : l.length ≤ 1000000) :
    Calls Try.prog 15 #[.slice a l.length c] w fun e w' => RV w' w.heap.size l e ∧ Below w.heap.size w w' := by
  rcases a with _ | ad
  · obtain rfl := hnil rfl
    have HF := Lib.hid (show RV w w.heap.size [] (.returned (.slice none 0 0)) from .inl ⟨rfl, rfl⟩)
    have he1 := fun (W : World) (A : Option Addr) (n c : Nat) => Lib.run_eql_slice_nil (P := Try.prog) W 23 28 A n c 0 0 Try.underlying23
    clear hr hnil
    go_enter Try.func15, Try.ntmps15
    go_wp2
    go_ret
    exact ⟨HF.out, Below.refl _ _⟩
  · have he1 := fun (W : World) (A : Option Addr) (n c : Nat) => Lib.run_eql_slice_nil (P := Try.prog) W 23 28 A n c 0 0 Try.underlying23
    have HR := Lib.hid hr
    clear hr hnil
    have HW := Lib.hid (show Below w.heap.size w (w.alloc (.cells #[] 28)) from (Below.refl _ _).alloc (Nat.le_refl _) _)
    have HS := Lib.hid (show SRow (w.alloc (.cells #[] 28)) w.heap.size 28 5 (some ⟨w.heap.size, 0, none⟩) 0 0 [] from ⟨rfl, .inr ⟨_, rfl, Nat.le_refl _, Nat.le_refl _, by decide, Row.new w _ []⟩⟩)
    have HOW := Lib.hid (show ∀ (A' : Option Addr) (c' : Nat) (w2 : World), SRow w2 w.heap.size 28 5 A' (0 + l.length) c' ([] ++ RCs l) → A' ≠ none → Mod (fun i => (some ⟨w.heap.size, 0, none⟩ : Option Addr) = some ⟨i, 0, none⟩) (w.alloc (.cells #[] 28)) w2 → RV w2 w.heap.size l (.returned (.slice A' (0 + l.length) c')) ∧ Below w.heap.size w w2 from fun A' c' w2 h1 hne h2 => by
      rw [Nat.zero_add, List.nil_append] at h1
      refine ⟨?_, Mem.Below.then_mod HW.out h2 (fun i hi e => by injection e with e; injection e; omega) (Nat.le_refl _)⟩
      obtain ⟨_, ⟨h3, _⟩ | ⟨g, rfl, h3, h4, h5, h6⟩⟩ := h1
      · exact absurd h3 hne
      · exact .inr ⟨g, c', by rw [Nat.zero_add], h3, h4, h5, HK.of_row h6⟩)
    have HOW0 := Lib.hid (show ∀ (c' : Nat) (w2 : World), SRow w2 w.heap.size 28 5 none (0 + l.length) c' ([] ++ RCs l) → Mod (fun i => (some ⟨w.heap.size, 0, none⟩ : Option Addr) = some ⟨i, 0, none⟩) (w.alloc (.cells #[] 28)) w2 → RV w2 w.heap.size l (.returned (.slice none (0 + l.length) c')) ∧ Below w.heap.size w w2 from fun c' w2 h1 h2 => by
      rw [Nat.zero_add, List.nil_append] at h1
      refine ⟨?_, Mem.Below.then_mod HW.out h2 (fun i hi e => by injection e with e; injection e; omega) (Nat.le_refl _)⟩
      obtain ⟨_, ⟨_, rfl, h4, h5⟩ | ⟨g, e, h3, h4, h5, h6⟩⟩ := h1
      · have : l = [] := List.eq_nil_of_length_eq_zero h4
        subst this
        exact .inl ⟨rfl, rfl⟩
      · cases e)
    go_enter Try.func15, Try.ntmps15
    go_wp2_with (at_builtin; refine wpAppS 23 28 (.agg #[.int .i64 0, .int .i64 0, .int .i64 0, .int .i64 0, .bool false]) 5 40 Try.underlying23 infoR rfl (by decide) rfl _ _ rfl w.heap.size (some ⟨w.heap.size, 0, none⟩) 0 0 [] rfl HS.out (some ad) l.length c (RCs l) rfl (RCs_len l) (HR.out.below HW.out) (fun h => by cases h) (RCs_one l) (by unfold maxLen; omega) (by omega) (by simp) ?_; intro A' c' w2 hO hM _; have HX := Lib.hid (show RV w2 w.heap.size l (.returned (.slice A' l.length c')) ∧ Below w.heap.size w w2 from by rw [show l.length = 0 + l.length from (Nat.zero_add _).symm]; rcases A' with _ | a'; (exact HOW0.out c' w2 hO hM); (exact HOW.out _ c' w2 hO (fun h => by cases h) hM)); clear hO hM)
    go_ret
    exact HX.out
abbrev delV (b : Nat) : Value := .func (.func 16) #[] #[.pointer (some ⟨b, 0, none⟩)]
set_option maxHeartbeats 2000000 in
theorem index_any (d : Array Rc) (N c g b : Nat) (gl : Int) {w : World} (h : HK w g d) (hN : N = d.size) (hm : N ≤ 1000000) (hc : w.cell? ⟨b, 0, none⟩ = some (.int .i64 gl)) (hb : b < w.heap.size) :
    Calls Try.prog 23 #[.slice (some ⟨g, 0, none⟩) N c, delV b] w fun e w' => Below w.heap.size w w' ∧
      ((e = .returned (.int .i64 (-1)) ∧ ∀ i, i < N → goF gl d[i]! = true) ∨ ∃ i : Nat, e = .returned (.int .i64 i) ∧ i < N ∧ goF gl d[i]! = false ∧ ∀ j, j < i → goF gl d[j]! = true) := by
  have H := Lib.hid h
  have HN := Lib.hid hN
  have HC := Lib.hid hc
  have HB := Lib.hid hb
  clear h hN hc hb
  go_enter Try.func23, Try.ntmps23
  go_wp2
  go_loopw [8] (fun vi wr => ∃ i : Nat, vi = .int .i64 i ∧ i ≤ N ∧ Below w.heap.size w wr ∧ Hid (∀ j, j < i → goF gl d[j]! = true)) (fun vi _ => N - (intOf vi).toNat)
  case atStart => exact ⟨0, rfl, Nat.zero_le _, Below.refl _ _, fun j hj => absurd hj (Nat.not_lt_zero _)⟩
  case round =>
    obtain ⟨i, rfl, hi, hB, HG⟩ := hrel
    have HBW := Lib.hid hB
    have HSZ := Lib.hid hB.size
    clear hB
    by_cases hlt : i < N
    · have hz : (i : Int) < (N : Int) := by omega
      have hz2 : i < N := hlt
      have HH := Lib.hid (H.out.below HBW.out)
      obtain ⟨q0, q1, q2, q3, q4⟩ := HH.out.cells5 (show i < d.size by rw [← HN.out]; exact hlt)
      have HCW := Lib.hid ((HBW.out.cell (p := ⟨b, 0, none⟩) HB.out).trans HC.out)
      have HCC := Lib.hid (not_any d[i]! gl wr b HCW.out (by have := HB.out; have := HSZ.out; omega))
      by_cases hg : goF gl d[i]! = true
      · rw [hg] at HCC
        have HG2 := Lib.hid (show ∀ j, j < i + 1 → goF gl d[j]! = true from fun j hj => by
          rcases Nat.lt_or_ge j i with k | k
          · exact HG.out j k
          · obtain rfl : j = i := by omega
            exact hg)
        clear hg HG
        go_wp2_with fail
        refine HCC.out.mono ?_
        rintro e w2 ⟨rfl, hb2⟩
        have HB2 := Lib.hid (below_then HBW.out hb2 HSZ.out)
        clear hb2 HCC
        go_wp2
        go_roundw
        case rel => exact ⟨i + 1, by go_num, hlt, HB2.out, HG2.out⟩
        case measure => simp [intOf]; omega
      · have hg' : goF gl d[i]! = false := by simpa using hg
        rw [hg'] at HCC
        have HG2 := Lib.hid hg'
        clear hg hg'
        go_wp2_with fail
        refine HCC.out.mono ?_
        rintro e w2 ⟨rfl, hb2⟩
        have HB2 := Lib.hid (below_then HBW.out hb2 HSZ.out)
        clear hb2 HCC
        go_wp2
        go_ret
        exact ⟨HB2.out, .inr ⟨i, rfl, hlt, HG2.out, HG.out⟩⟩
    · obtain rfl : i = N := by omega
      go_wp2
      go_ret
      exact ⟨HBW.out, .inl ⟨rfl, HG.out⟩⟩
end Go.Proofs.Ytcblhfjgdkbinaa.Re
