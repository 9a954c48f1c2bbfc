/- Records in memory; cmp.Compare, cmp.Or; Tier, compare, goes. Conditions: none but the memory. -/
import Derived.Test.YtcblhfjgdkbinaaAppB
import Derived.Test.YtcblhfjgdkbinaaShelf
import Derived.Test.YtcblhfjgdkbinaaJa
import Derived.Shelf.SlSortCmp.InsertionK
namespace Go.Proofs.Ytcblhfjgdkbinaa.Re
open Go.RowKit Go.Proofs.Ytcblhfjgdkbinaa.Mem Go.Proofs.Ytcblhfjgdkbinaa.Sl Go.Shelf
open Go.Proofs.Ytcblhfjgdkbinaa.FnL (enc_at below_then)
set_option linter.unusedVariables false

structure Rc where
  id : Int
  lbd : Int
  size : Int
  used : Int
  locked : Bool
instance : Inhabited Rc := ⟨⟨0, 0, 0, 0, false⟩⟩
def encR (r : Rc) : List Value := [.int .i64 r.id, .int .i64 r.lbd, .int .i64 r.size, .int .i64 r.used, .bool r.locked]
abbrev agR (r : Rc) : Value := .agg #[.int .i64 r.id, .int .i64 r.lbd, .int .i64 r.size, .int .i64 r.used, .bool r.locked]
theorem encR_len (r : Rc) : (encR r).length = 5 := rfl
theorem encR_one (r : Rc) : ∀ v ∈ encR r, v.oneCell' = true := fun v hv => by
  unfold encR at hv
  simp only [List.mem_cons, List.not_mem_nil, or_false] at hv
  rcases hv with rfl | rfl | rfl | rfl | rfl <;> rfl
/-- The first that is not 0. -/
def orF (a b c d : Int) : Int := if a ≠ 0 then a else if b ≠ 0 then b else if c ≠ 0 then c else d
def cfR (x y : Rc) : Int := orF (Lib.compareInt y.lbd x.lbd) (Lib.compareInt y.size x.size) (Lib.compareInt x.used y.used) (Lib.compareInt x.id y.id)
set_option maxRecDepth 100000 in
set_option maxHeartbeats 1000000 in
theorem or_any (a b c d : Int) {w : World} {g : Nat} (h : Blk w g 3 #[.int .i64 a, .int .i64 b, .int .i64 c, .int .i64 d]) :
    Calls Try.prog 25 #[.slice (some ⟨g, 0, none⟩) 4 4] w fun e w' => e = .returned (.int .i64 (orF a b c d)) ∧ w = w' := by
  have c0 : w.cell? ⟨g, 0, none⟩ = some (.int .i64 a) := h.cell 0
  have c1 : w.cell? ⟨g, 1, none⟩ = some (.int .i64 b) := h.cell 1
  have c2 : w.cell? ⟨g, 2, none⟩ = some (.int .i64 c) := h.cell 2
  have c3 : w.cell? ⟨g, 3, none⟩ = some (.int .i64 d) := h.cell 3
  have HF := Lib.hid (show orF a b c d = if a ≠ 0 then a else if b ≠ 0 then b else if c ≠ 0 then c else d from rfl)
  generalize orF a b c d = R at *
  clear h
  by_cases ha : a = 0
  · by_cases hb : b = 0
    · by_cases hc : c = 0
      · by_cases hd : d = 0
        · have HR := Lib.hid (show R = 0 by rw [HF.out]; simp [ha, hb, hc, hd])
          subst ha hb hc hd
          go_enter Try.func25, Try.ntmps25
          go_wp2_with fail
          go_loopw [8] (fun i wr => ∃ k : Nat, k ≤ 4 ∧ i = .int .i64 k ∧ wr = w) (fun i _ => 4 - (intOf i).toNat)
          case atStart => exact ⟨0, by decide, rfl, rfl⟩
          case round =>
            obtain ⟨k, hk, rfl, rfl⟩ := hrel
            rcases (show k = 0 ∨ k = 1 ∨ k = 2 ∨ k = 3 ∨ k = 4 by omega) with rfl | rfl | rfl | rfl | rfl
            · go_wp2
              go_roundw
              case rel => exact ⟨1, by decide, by go_num, by first | rfl | trivial⟩
              case measure => simp [intOf]
            · go_wp2
              go_roundw
              case rel => exact ⟨2, by decide, by go_num, by first | rfl | trivial⟩
              case measure => simp [intOf]
            · go_wp2
              go_roundw
              case rel => exact ⟨3, by decide, by go_num, by first | rfl | trivial⟩
              case measure => simp [intOf]
            · go_wp2
              go_roundw
              case rel => exact ⟨4, by decide, by go_num, by first | rfl | trivial⟩
              case measure => simp [intOf]
            · go_wp2
              go_ret
              exact ⟨by rw [HR.out]; rfl, rfl⟩
        · have HR := Lib.hid (show R = d by rw [HF.out]; simp [ha, hb, hc])
          subst ha hb hc
          go_enter Try.func25, Try.ntmps25
          go_wp2_with fail
          go_loopw [8] (fun i wr => ∃ k : Nat, k ≤ 3 ∧ i = .int .i64 k ∧ wr = w) (fun i _ => 4 - (intOf i).toNat)
          case atStart => exact ⟨0, by decide, rfl, rfl⟩
          case round =>
            obtain ⟨k, hk, rfl, rfl⟩ := hrel
            rcases (show k = 0 ∨ k = 1 ∨ k = 2 ∨ k = 3 by omega) with rfl | rfl | rfl | rfl
            · go_wp2
              go_roundw
              case rel => exact ⟨1, by decide, by go_num, by first | rfl | trivial⟩
              case measure => simp [intOf]
            · go_wp2
              go_roundw
              case rel => exact ⟨2, by decide, by go_num, by first | rfl | trivial⟩
              case measure => simp [intOf]
            · go_wp2
              go_roundw
              case rel => exact ⟨3, by decide, by go_num, by first | rfl | trivial⟩
              case measure => simp [intOf]
            · go_wp2
              go_ret
              exact ⟨by rw [HR.out]; rfl, rfl⟩
      · have HR := Lib.hid (show R = c by rw [HF.out]; simp [ha, hb, hc])
        subst ha hb
        go_enter Try.func25, Try.ntmps25
        go_wp2_with fail
        go_loopw [8] (fun i wr => ∃ k : Nat, k ≤ 2 ∧ i = .int .i64 k ∧ wr = w) (fun i _ => 4 - (intOf i).toNat)
        case atStart => exact ⟨0, by decide, rfl, rfl⟩
        case round =>
          obtain ⟨k, hk, rfl, rfl⟩ := hrel
          rcases (show k = 0 ∨ k = 1 ∨ k = 2 by omega) with rfl | rfl | rfl
          · go_wp2
            go_roundw
            case rel => exact ⟨1, by decide, by go_num, by first | rfl | trivial⟩
            case measure => simp [intOf]
          · go_wp2
            go_roundw
            case rel => exact ⟨2, by decide, by go_num, by first | rfl | trivial⟩
            case measure => simp [intOf]
          · go_wp2
            go_ret
            exact ⟨by rw [HR.out]; rfl, rfl⟩
    · have HR := Lib.hid (show R = b by rw [HF.out]; simp [ha, hb])
      subst ha
      go_enter Try.func25, Try.ntmps25
      go_wp2_with fail
      go_loopw [8] (fun i wr => ∃ k : Nat, k ≤ 1 ∧ i = .int .i64 k ∧ wr = w) (fun i _ => 4 - (intOf i).toNat)
      case atStart => exact ⟨0, by decide, rfl, rfl⟩
      case round =>
        obtain ⟨k, hk, rfl, rfl⟩ := hrel
        rcases (show k = 0 ∨ k = 1 by omega) with rfl | rfl
        · go_wp2
          go_roundw
          case rel => exact ⟨1, by decide, by go_num, by first | rfl | trivial⟩
          case measure => simp [intOf]
        · go_wp2
          go_ret
          exact ⟨by rw [HR.out]; rfl, rfl⟩
  · have HR := Lib.hid (show R = a by rw [HF.out]; simp [ha])
    go_enter Try.func25, Try.ntmps25
    go_wp2_with fail
    go_loopw [8] (fun i wr => ∃ k : Nat, k ≤ 0 ∧ i = .int .i64 k ∧ wr = w) (fun i _ => 4 - (intOf i).toNat)
    case atStart => exact ⟨0, by decide, rfl, rfl⟩
    case round =>
      obtain ⟨k, hk, rfl, rfl⟩ := hrel
      obtain rfl : k = 0 := by omega
      go_wp2
      go_ret
      exact ⟨by rw [HR.out]; rfl, rfl⟩
theorem cmpI_any (x y : Int) (w : World) : Calls Try.prog 26 #[.int .i64 x, .int .i64 y] w fun e w' => e = .returned (.int .i64 (Lib.compareInt x y)) ∧ w = w' :=
  (Try.cmp_Compare_int x y w).mono fun e w' h => ⟨h.1, h.2.symm⟩
theorem nan_any (x : Int) (w : World) : Calls Try.prog 32 #[.int .i64 x] w fun e w' => e = .returned (.bool false) ∧ w = w' := by
  go_enter Try.func32, Try.ntmps32
  go_wp2
  go_ret
  exact ⟨by simp, rfl⟩
theorem cmpJ_any (x y : Int) (w : World) : Calls Try.prog 27 #[.int .i64 x, .int .i64 y] w fun e w' => e = .returned (.int .i64 (Lib.compareInt x y)) ∧ w = w' := by
  have N1 := Lib.hid (nan_any x w)
  have N2 := Lib.hid (nan_any y w)
  have HF := Lib.hid (show Lib.compareInt x y = if x < y then -1 else if x > y then 1 else 0 from rfl)
  generalize Lib.compareInt x y = R at *
  by_cases h1 : x < y
  · have HR := Lib.hid (show R = -1 by rw [HF.out, if_pos h1])
    go_enter Try.func27, Try.ntmps27
    go_wp2_with fail
    refine N1.out.mono ?_
    rintro e w1 ⟨rfl, rfl⟩
    go_wp2_with fail
    refine N2.out.mono ?_
    rintro e w1 ⟨rfl, rfl⟩
    go_wp2
    go_ret
    exact ⟨by rw [HR.out]; rfl, rfl⟩
  · by_cases h2 : y < x
    · have HR := Lib.hid (show R = 1 by rw [HF.out, if_neg h1, if_pos h2])
      go_enter Try.func27, Try.ntmps27
      go_wp2_with fail
      refine N1.out.mono ?_
      rintro e w1 ⟨rfl, rfl⟩
      go_wp2_with fail
      refine N2.out.mono ?_
      rintro e w1 ⟨rfl, rfl⟩
      go_wp2
      go_ret
      exact ⟨by rw [HR.out]; rfl, rfl⟩
    · have HR := Lib.hid (show R = 0 by rw [HF.out, if_neg h1, if_neg h2])
      go_enter Try.func27, Try.ntmps27
      go_wp2_with fail
      refine N1.out.mono ?_
      rintro e w1 ⟨rfl, rfl⟩
      go_wp2_with fail
      refine N2.out.mono ?_
      rintro e w1 ⟨rfl, rfl⟩
      go_wp2
      go_ret
      exact ⟨by rw [HR.out]; rfl, rfl⟩
def orEntry (w : World) (a b c d : Int) : World := (w.alloc (.cells #[.int .i64 a, .int .i64 b, .int .i64 c, .int .i64 d] 3))
set_option maxRecDepth 100000 in
set_option maxHeartbeats 2000000 in
theorem cmp_any (x y : Rc) (w : World) : Calls Try.prog 19 #[agR x, agR y] w fun e w' => e = .returned (.int .i64 (cfR x y)) ∧ Below w.heap.size w w' := by
  have C1 := Lib.hid (fun W => cmpI_any y.lbd x.lbd W)
  have C2 := Lib.hid (fun W => cmpI_any y.size x.size W)
  have C3 := Lib.hid (fun W => cmpI_any x.used y.used W)
  have C4 := Lib.hid (fun W => cmpJ_any x.id y.id W)
  have HF := Lib.hid (show cfR x y = orF (Lib.compareInt y.lbd x.lbd) (Lib.compareInt y.size x.size) (Lib.compareInt x.used y.used) (Lib.compareInt x.id y.id) from rfl)
  generalize Lib.compareInt y.lbd x.lbd = a at *
  generalize Lib.compareInt y.size x.size = b at *
  generalize Lib.compareInt x.used y.used = c at *
  generalize Lib.compareInt x.id y.id = d at *
  rw [show cfR x y = orF a b c d from HF.out]
  clear HF
  have HO := Lib.hid (fun (W : World) => or_any a b c d (Blk.new W 3 #[.int .i64 a, .int .i64 b, .int .i64 c, .int .i64 d]))
  generalize orF a b c d = R at *
  go_enter Try.func19, Try.ntmps19
  go_wp2_with fail
  have HBX := Lib.hid (Blk.alloc (Blk.new w 28 #[.int .i64 x.id, .int .i64 x.lbd, .int .i64 x.size, .int .i64 x.used, .bool x.locked]) (.cells #[.int .i64 y.id, .int .i64 y.lbd, .int .i64 y.size, .int .i64 y.used, .bool y.locked] 28))
  have HBY := Lib.hid (Blk.new (w.alloc (.cells #[.int .i64 x.id, .int .i64 x.lbd, .int .i64 x.size, .int .i64 x.used, .bool x.locked] 28)) 28 #[.int .i64 y.id, .int .i64 y.lbd, .int .i64 y.size, .int .i64 y.used, .bool y.locked])
  rw [show (w.alloc (.cells #[.int .i64 x.id, .int .i64 x.lbd, .int .i64 x.size, .int .i64 x.used, .bool x.locked] 28)).heap.size = w.heap.size + 1 by simp] at HBY
  have HBW := Lib.hid (((Below.refl w.heap.size w).alloc (Nat.le_refl _) (.cells #[.int .i64 x.id, .int .i64 x.lbd, .int .i64 x.size, .int .i64 x.used, .bool x.locked] 28)).alloc (by simp) (.cells #[.int .i64 y.id, .int .i64 y.lbd, .int .i64 y.size, .int .i64 y.used, .bool y.locked] 28))
  obtain ⟨W1, hW⟩ : ∃ W1, W1 = ((w.alloc (.cells #[.int .i64 x.id, .int .i64 x.lbd, .int .i64 x.size, .int .i64 x.used, .bool x.locked] 28)).alloc (.cells #[.int .i64 y.id, .int .i64 y.lbd, .int .i64 y.size, .int .i64 y.used, .bool y.locked] 28)) := ⟨_, rfl⟩
  rw [← hW] at HBX HBY HBW ⊢
  clear hW
  have x0 := HBX.out.cell 0
  have x1 := HBX.out.cell 1
  have x2 := HBX.out.cell 2
  have x3 := HBX.out.cell 3
  have y0 := HBY.out.cell 0
  have y1 := HBY.out.cell 1
  have y2 := HBY.out.cell 2
  have y3 := HBY.out.cell 3
  simp only [List.getElem?_toArray, List.getElem?_cons_succ, List.getElem?_cons_zero] at x0 x1 x2 x3 y0 y1 y2 y3
  have HOX := Lib.hid (HO.out W1.drew)
  have HBW := Lib.hid (show Below w.heap.size w (W1.drew.alloc (.cells #[.int .i64 a, .int .i64 b, .int .i64 c, .int .i64 d] 3)) from HBW.out.drew.alloc HBW.out.size _)
  clear HBX HBY HO
  refine wp_region_still_tail 20 (by kernel_rfl) (by kernel_rfl) ?_
  change wpStill _ _ W1.drew _ _ _
  simp only [List.take_succ_cons, List.take_zero, List.drop_succ_cons, List.drop_zero]
  repeat still_step
  still_call ((C1.out _).mono fun _ _ h => ⟨h.1, h.2.symm⟩)
  repeat still_step
  still_call ((C2.out _).mono fun _ _ h => ⟨h.1, h.2.symm⟩)
  repeat still_step
  still_call ((C3.out _).mono fun _ _ h => ⟨h.1, h.2.symm⟩)
  repeat still_step
  still_call ((C4.out _).mono fun _ _ h => ⟨h.1, h.2.symm⟩)
  repeat still_step
  refine wpStill_nil ?_
  change wpList _ _ _ _ _ W1.drew
  go_wp2_with fail
  refine HOX.out.mono ?_
  rintro e w1 ⟨rfl, rfl⟩
  go_wp2
  go_ret
  exact ⟨rfl, HBW.out⟩
def glI (g : Int) : Int := if g < 0 then 0 else if 65535 < g then 65535 else g
def tierF (l g : Int) : Int := if l ≤ glI g then 1 else if l ≤ glI g + 4 then 2 else 3
theorem glI_b (g : Int) : 0 ≤ glI g ∧ glI g ≤ 65535 := by unfold glI; split <;> (try split) <;> omega
theorem tierF_cases (l g : Int) : (tierF l g = 1 ∧ l ≤ glI g) ∨ (tierF l g = 2 ∧ ¬ l ≤ glI g ∧ l ≤ glI g + 4) ∨ (tierF l g = 3 ∧ ¬ l ≤ glI g ∧ ¬ l ≤ glI g + 4) := by
  unfold tierF
  by_cases h1 : l ≤ glI g
  · exact .inl ⟨if_pos h1, h1⟩
  · by_cases h2 : l ≤ glI g + 4
    · exact .inr (.inl ⟨by rw [if_neg h1, if_pos h2], h1, h2⟩)
    · exact .inr (.inr ⟨by rw [if_neg h1, if_neg h2], h1, h2⟩)
set_option maxHeartbeats 1000000 in
theorem tier_any (x : Rc) (g : Int) (w : World) : Calls Try.prog 9 #[agR x, .int .i64 g] w fun e w' => e = .returned (.int .i64 (tierF x.lbd g)) ∧ Below w.heap.size w w' := by
  have HT := Lib.hid (tierF_cases x.lbd g)
  have HG := Lib.hid (glI_b g)
  have HD := Lib.hid (show glI g = if g < 0 then 0 else if 65535 < g then 65535 else g from rfl)
  have HB := Lib.hid (fun (o : Obj) => (Below.refl w.heap.size w).alloc (Nat.le_refl _) o)
  generalize tierF x.lbd g = T at *
  generalize glI g = G at *
  rcases (show g < 0 ∨ 65535 < g ∨ (0 ≤ g ∧ g ≤ 65535) by omega) with hg | hg | hg
  · obtain rfl : G = 0 := by have := HD.out; rwa [if_pos hg] at this
    rcases HT.out with ⟨rfl, h1⟩ | ⟨rfl, h1, h2⟩ | ⟨rfl, h1, h2⟩
    · go_enter Try.func9, Try.ntmps9
      go_wp2
      go_ret
      exact ⟨rfl, HB.out _⟩
    · have h3 : x.lbd ≤ 4 := by omega
      go_enter Try.func9, Try.ntmps9
      go_wp2
      go_ret
      exact ⟨rfl, HB.out _⟩
    · have h3 : ¬ x.lbd ≤ 4 := by omega
      go_enter Try.func9, Try.ntmps9
      go_wp2
      go_ret
      exact ⟨rfl, HB.out _⟩
  · obtain rfl : G = 65535 := by have := HD.out; rwa [if_neg (by omega), if_pos hg] at this
    have hg0 : 0 < g := by omega
    rcases HT.out with ⟨rfl, h1⟩ | ⟨rfl, h1, h2⟩ | ⟨rfl, h1, h2⟩
    · go_enter Try.func9, Try.ntmps9
      go_wp2
      go_ret
      exact ⟨rfl, HB.out _⟩
    · have h3 : x.lbd ≤ 65539 := by omega
      go_enter Try.func9, Try.ntmps9
      go_wp2
      go_ret
      exact ⟨rfl, HB.out _⟩
    · have h3 : ¬ x.lbd ≤ 65539 := by omega
      go_enter Try.func9, Try.ntmps9
      go_wp2
      go_ret
      exact ⟨rfl, HB.out _⟩
  · obtain rfl : G = g := by have := HD.out; rwa [if_neg (by omega), if_neg (by omega)] at this
    obtain ⟨hg1, hg2⟩ := hg
    by_cases hz : G = 0
    · subst hz
      rcases HT.out with ⟨rfl, h1⟩ | ⟨rfl, h1, h2⟩ | ⟨rfl, h1, h2⟩
      · go_enter Try.func9, Try.ntmps9
        go_wp2
        go_ret
        exact ⟨rfl, HB.out _⟩
      · have h3 : x.lbd ≤ 4 := by omega
        go_enter Try.func9, Try.ntmps9
        go_wp2
        go_ret
        exact ⟨rfl, HB.out _⟩
      · have h3 : ¬ x.lbd ≤ 4 := by omega
        go_enter Try.func9, Try.ntmps9
        go_wp2
        go_ret
        exact ⟨rfl, HB.out _⟩
    · have hg3 : ¬ G < 0 := by omega
      have hg4 : 0 < G := by omega
      have hg5 : ¬ 65535 < G := by omega
      rcases HT.out with ⟨rfl, h1⟩ | ⟨rfl, h1, h2⟩ | ⟨rfl, h1, h2⟩
      · go_enter Try.func9, Try.ntmps9
        go_wp2
        go_ret
        exact ⟨rfl, HB.out _⟩
      · go_enter Try.func9, Try.ntmps9
        go_wp2
        go_ret
        exact ⟨rfl, HB.out _⟩
      · go_enter Try.func9, Try.ntmps9
        go_wp2
        go_ret
        exact ⟨rfl, HB.out _⟩
end Go.Proofs.Ytcblhfjgdkbinaa.Re
