/- The walk of HeapKnown (printed by wip/tools/gen_ic.py). -/
import Derived.Test.YtienomdennbkpaaHv
namespace Go.Proofs.Ytienomdennbkpaa.He
open Go.RowKit Go.Proofs.Ytienomdennbkpaa.Mem Go.Proofs.Ytienomdennbkpaa.Sl Go.Shelf
open Go.Proofs.Ytienomdennbkpaa.FnL (enc_at below_then)
set_option linter.unusedVariables false

/-- A heap of 4, at an address, in a world behind w0. -/
def KA (w0 w : World) (g : Nat) (s l : List Int) : Prop := Al w w0.heap.size 4 g nox s l ∧ Below w0.heap.size w0 w
section
variable {w0 w : World} {g : Nat} {s l : List Int}
theorem KA.alloc (h : KA w0 w g s l) (o : Obj) : KA w0 (w.alloc o) g s l := ⟨h.1.below ((Below.refl _ w).alloc (Nat.le_refl _) o), h.2.alloc h.2.size o⟩
theorem KA.below {w' : World} (h : KA w0 w g s l) (hb : Below w.heap.size w w') : KA w0 w' g s l := ⟨h.1.below hb, below_then h.2 hb h.2.size⟩
theorem k_push (h : KA w0 w g s l) (v r : Int) (l' : List Int) (h1 : pushE 4 l v = r) (h2 : pushL 4 l v = l') : Calls Try.prog 11 #[.pointer (some ⟨g, 0, none⟩), .int .i64 v] w fun e w' => e = .returned (.int .i64 r) ∧ KA w0 w' g s l' := by
  subst h1 h2
  exact (al_push h.1 h.2.size (fun _ e => e.elim) v).mono fun e w' ⟨k1, k2, k3, _⟩ => ⟨k1, k2, h.2.trans k3⟩
theorem k_rem (h : KA w0 w g s l) (v r : Int) (h1 : remE 4 l v = r) (h2 : l.erase v = l) : Calls Try.prog 17 #[.pointer (some ⟨g, 0, none⟩), .int .i64 v] w fun e w' => e = .returned (.int .i64 r) ∧ KA w0 w' g s l := by
  subst h1
  exact (al_rem h.1 h.2.size (fun _ e => e.elim) v).mono fun e w' ⟨k1, k2, k3, _⟩ => ⟨k1, h2 ▸ k2, h.2.trans k3⟩
theorem k_pop (h : KA w0 w g s l) (l' : List Int) (x : Int) (b : Bool) (l2 : List Int) (h1 : Ord s l' l) (h2 : l'.getD 0 0 = x) (h3 : decide (0 < l'.length) = b) (h4 : l'.tail = l2) : Calls Try.prog 21 #[.pointer (some ⟨g, 0, none⟩)] w fun e w' => e = .returned (.tuple #[.int .i64 x, .bool b]) ∧ KA w0 w' g s l2 := by
  subst h2 h3 h4
  exact (al_pop h.1 h.2.size (fun _ e => e.elim) h1).mono fun e w' ⟨k1, k2, k3, _⟩ => ⟨k1, k2, h.2.trans k3⟩
theorem k_bump (h : KA w0 w g s l) (n : Nat) (v y : Int) (b : Bool) (s' : List Int) (hv : v = n) (h1 : 1 ≤ n ∧ n ≤ 4) (h2 : 0 ≤ y ∧ y ≤ MOST) (h3 : decide (MOST < s.getD n 0 + y) = b) (h4 : bumpF s n y = s') : Calls Try.prog 10 #[.pointer (some ⟨g, 0, none⟩), .int .i64 v, .int .i64 y] w fun e w' => e = .returned (.tuple #[.bool b, .int .i64 0]) ∧ KA w0 w' g s' l := by
  subst h3 h4 hv
  exact (al_bump h.1 h.2.size (fun _ e => e.elim) n y h1 h2).mono fun e w' ⟨k1, k2, k3, _⟩ => ⟨k1, k2, h.2.trans k3⟩
theorem k_bad (h : KA w0 w g s l) (v y : Int) (hb : isB 4 v = false ∨ y < 0 ∨ MOST < y) : Calls Try.prog 10 #[.pointer (some ⟨g, 0, none⟩), .int .i64 v, .int .i64 y] w fun e w' => e = .returned (.tuple #[.bool false, .int .i64 2]) ∧ w = w' := al_bad h.1 v y hb
theorem k_score (h : KA w0 w g s l) (v x : Int) (h1 : scI 4 s v = x) : Calls Try.prog 16 #[.pointer (some ⟨g, 0, none⟩), .int .i64 v] w fun e w' => e = .returned (.int .i64 x) ∧ w = w' := by
  subst h1; exact al_score h.1 v
theorem k_same (w : World) {B c : Nat} {A : Option Addr} {l1 l2 : List Int} (hO : App.Own w B 3 A 4 c (LZ l1)) (h1 : l1.length = 4) (h2 : l2 = l1) : Calls Try.prog 13 #[.slice A 4 c, .slice (some ⟨w.heap.size, 0, none⟩) 4 4] (w.alloc (.cells (LZ l2).toArray 3)) fun e w' => e = .returned (.bool true) ∧ Below (w.alloc (.cells (LZ l2).toArray 3)).heap.size (w.alloc (.cells (LZ l2).toArray 3)) w' := by
  subst h2
  have := same_any (w := w.alloc (.cells (LZ l2).toArray 3)) A 4 c l2 h1.symm (hO.alloc _).rd (some ⟨w.heap.size, 0, none⟩) 4 4 l2 h1.symm (by have := (Row.new w 3 (LZ l2)).rd; exact this) (by decide) (by decide)
  rwa [show (l2 == l2) = true by simp] at this
end
set_option maxRecDepth 100000 in
set_option maxHeartbeats 8000000 in
theorem known_any (w : World) :
    Calls Try.prog 7 #[] w fun e w' => e = .returned (.bool true) ∧ Below w.heap.size w w' := by
  have HWK := Lib.hid (fun W => works_any W)
  have HN := Lib.hid (show Calls Try.prog 9 #[.int .i64 4] w (AlNewR w 4) from al_new 4 (by decide) w)
  have HN0 := Lib.hid (fun W => show Calls Try.prog 9 #[.int .i64 0] W (AlNewR W 0) from al_new 0 (by decide) W)
  have HNA := Lib.hid (fun W => new_bad (-1) W (.inl (by decide)))
  have HNB := Lib.hid (fun W => new_bad 1048577 W (.inr (by decide)))
  have HPN := Lib.hid (fun W => hpop_nil W)
  have HTN := Lib.hid (fun W => top_nil W)
  have HBN := Lib.hid (fun W => bump_nil 1 1 W)
  have HUN := Lib.hid (fun W => hpush_nil 1 W)
  have HRN := Lib.hid (fun W => hrem_nil 1 W)
  have HHN := Lib.hid (fun W => has_nil 1 W)
  have HSN := Lib.hid (fun W => score_nil 1 W)
  have HZN := Lib.hid (fun W => size_nil W)
  have HON := Lib.hid (fun W => order_nil W)
  have HCN := Lib.hid (fun W => copy_nil W)
  go_enter Try.func7, Try.ntmps7
  go_wp2_with fail
  refine HN.out.mono ?_
  rintro e w1 ⟨⟨g, rfl, h1⟩, hb1⟩
  have HA := Lib.hid (show KA w w1 g [0, 0, 0, 0, 0] [] from ⟨h1, hb1⟩)
  clear h1 hb1 HN
  have HC := Lib.hid (k_push HA.out 3 0 [3] (by decide) (by decide))
  go_wp2_with fail
  refine HC.out.mono ?_
  rintro e w2 ⟨rfl, hA⟩
  clear HA HC
  have HA := Lib.hid hA
  clear hA
  have HC := Lib.hid (k_push HA.out 1 0 [3, 1] (by decide) (by decide))
  go_wp2_with fail
  refine HC.out.mono ?_
  rintro e w3 ⟨rfl, hA⟩
  clear HA HC
  have HA := Lib.hid hA
  clear hA
  have HC := Lib.hid (k_push HA.out 3 6 [3, 1] (by decide) (by decide))
  go_wp2_with fail
  refine HC.out.mono ?_
  rintro e w4 ⟨rfl, hA⟩
  clear HA HC
  have HA := Lib.hid hA
  clear hA
  have HC := Lib.hid (k_push HA.out 5 2 [3, 1] (by decide) (by decide))
  go_wp2_with fail
  refine HC.out.mono ?_
  rintro e w5 ⟨rfl, hA⟩
  clear HA HC
  have HA := Lib.hid hA
  clear hA
  have HC := Lib.hid (k_push HA.out 0 2 [3, 1] (by decide) (by decide))
  go_wp2_with fail
  refine HC.out.mono ?_
  rintro e w6 ⟨rfl, hA⟩
  clear HA HC
  have HA := Lib.hid hA
  clear hA
  have HC := Lib.hid (k_rem HA.out 2 5 (by decide) (by decide))
  go_wp2_with fail
  refine HC.out.mono ?_
  rintro e w7 ⟨rfl, hA⟩
  clear HA HC
  have HA := Lib.hid hA
  clear hA
  have HC := Lib.hid (k_rem HA.out 5 2 (by decide) (by decide))
  go_wp2_with fail
  refine HC.out.mono ?_
  rintro e w8 ⟨rfl, hA⟩
  clear HA HC
  have HA := Lib.hid hA
  clear hA
  have HC := Lib.hid (k_bump HA.out 3 3 5 false [0, 0, 0, 5, 0] rfl (by decide) (by decide) (by decide) (by decide))
  go_wp2_with fail
  refine HC.out.mono ?_
  rintro e w9 ⟨rfl, hA⟩
  clear HA HC
  have HA := Lib.hid hA
  clear hA
  have HC := Lib.hid (k_pop HA.out [3, 1] 3 true [1] (Ord.of (by decide) (by decide)) (by decide) (by decide) (by decide))
  go_wp2_with fail
  refine HC.out.mono ?_
  rintro e w10 ⟨rfl, hA⟩
  clear HA HC
  have HA := Lib.hid hA
  clear hA
  have HC := Lib.hid (k_pop HA.out [1] 1 true [] (Ord.of (by decide) (by decide)) (by decide) (by decide) (by decide))
  go_wp2_with fail
  refine HC.out.mono ?_
  rintro e w11 ⟨rfl, hA⟩
  clear HA HC
  have HA := Lib.hid hA
  clear hA
  have HC := Lib.hid (k_pop HA.out [] 0 false [] (Ord.of (by decide) (by decide)) (by decide) (by decide) (by decide))
  go_wp2_with fail
  refine HC.out.mono ?_
  rintro e w12 ⟨rfl, hA⟩
  clear HA HC
  have HA := Lib.hid hA
  clear hA
  have HC := Lib.hid (k_bump HA.out 2 2 1152921504606846976 false [0, 0, 1152921504606846976, 5, 0] rfl (by decide) (by decide) (by decide) (by decide))
  go_wp2_with fail
  refine HC.out.mono ?_
  rintro e w13 ⟨rfl, hA⟩
  clear HA HC
  have HA := Lib.hid hA
  clear hA
  have HC := Lib.hid (k_bump HA.out 2 2 1 true [0, 0, 1073741824, 0, 0] rfl (by decide) (by decide) (by decide) (by decide))
  go_wp2_with fail
  refine HC.out.mono ?_
  rintro e w14 ⟨rfl, hA⟩
  clear HA HC
  have HA := Lib.hid hA
  clear hA
  have HC := Lib.hid (k_bad HA.out 2 (-1) (by decide))
  go_wp2_with fail
  refine HC.out.mono ?_
  rintro e wx ⟨rfl, rfl⟩
  clear HC
  have HC := Lib.hid (k_bad HA.out 2 1152921504606846977 (by decide))
  go_wp2_with fail
  refine HC.out.mono ?_
  rintro e wx ⟨rfl, rfl⟩
  clear HC
  have HC := Lib.hid (k_bad HA.out 5 1 (by decide))
  go_wp2_with fail
  refine HC.out.mono ?_
  rintro e wx ⟨rfl, rfl⟩
  clear HC
  have HC := Lib.hid (k_score HA.out 2 1073741824 (by decide))
  go_wp2_with fail
  refine HC.out.mono ?_
  rintro e wx ⟨rfl, rfl⟩
  clear HC
  have HC := Lib.hid (k_score HA.out 3 0 (by decide))
  go_wp2_with fail
  refine HC.out.mono ?_
  rintro e wx ⟨rfl, rfl⟩
  clear HC
  have HC := Lib.hid (k_score HA.out 0 0 (by decide))
  go_wp2_with fail
  refine HC.out.mono ?_
  rintro e wx ⟨rfl, rfl⟩
  clear HC
  have HC := Lib.hid (k_score HA.out 9 0 (by decide))
  go_wp2_with fail
  refine HC.out.mono ?_
  rintro e wx ⟨rfl, rfl⟩
  clear HC
  go_wp2_with fail
  go_loopw [22] (fun i wr => ∃ k : Nat, k ≤ 4 ∧ i = .int .i64 ((k : Int) + 1) ∧ KA w wr g [0, 0, 1073741824, 0, 0] ([1, 2, 3, 4].take k)) (fun i _ => 5 - (intOf i).toNat)
  case atStart => exact ⟨0, by decide, rfl, HA.out⟩
  case round =>
    clear HA
    obtain ⟨k, hk, rfl, hA⟩ := hrel
    have HA := Lib.hid hA
    clear hA
    rcases (show k = 0 ∨ k = 1 ∨ k = 2 ∨ k = 3 ∨ k = 4 by omega) with rfl | rfl | rfl | rfl | rfl
    · have HC := Lib.hid (k_push HA.out 1 0 [1] (by decide) (by decide))
      go_wp2_with fail
      refine HC.out.mono ?_
      rintro e w2 ⟨rfl, hA⟩
      clear HA HC
      have HA := Lib.hid hA
      clear hA
      go_wp2
      go_roundw
      case rel => exact ⟨1, by decide, by go_num, HA.out⟩
      case measure => simp [intOf]
    · have HC := Lib.hid (k_push HA.out 2 0 [1, 2] (by decide) (by decide))
      go_wp2_with fail
      refine HC.out.mono ?_
      rintro e w2 ⟨rfl, hA⟩
      clear HA HC
      have HA := Lib.hid hA
      clear hA
      go_wp2
      go_roundw
      case rel => exact ⟨2, by decide, by go_num, HA.out⟩
      case measure => simp [intOf]
    · have HC := Lib.hid (k_push HA.out 3 0 [1, 2, 3] (by decide) (by decide))
      go_wp2_with fail
      refine HC.out.mono ?_
      rintro e w2 ⟨rfl, hA⟩
      clear HA HC
      have HA := Lib.hid hA
      clear hA
      go_wp2
      go_roundw
      case rel => exact ⟨3, by decide, by go_num, HA.out⟩
      case measure => simp [intOf]
    · have HC := Lib.hid (k_push HA.out 4 0 [1, 2, 3, 4] (by decide) (by decide))
      go_wp2_with fail
      refine HC.out.mono ?_
      rintro e w2 ⟨rfl, hA⟩
      clear HA HC
      have HA := Lib.hid hA
      clear hA
      go_wp2
      go_roundw
      case rel => exact ⟨4, by decide, by go_num, HA.out⟩
      case measure => simp [intOf]
    · have HA := Lib.hid (show KA w wr g [0, 0, 1073741824, 0, 0] [1, 2, 3, 4] from HA.out)
      have HC := Lib.hid (k_bump HA.out 1 1 5 false [0, 5, 1073741824, 0, 0] rfl (by decide) (by decide) (by decide) (by decide))
      go_wp2_with fail
      refine HC.out.mono ?_
      rintro e w15 ⟨rfl, hA⟩
      clear HA HC
      have HA := Lib.hid hA
      clear hA
      have HC := Lib.hid (k_bump HA.out 4 4 7 false [0, 5, 1073741824, 0, 7] rfl (by decide) (by decide) (by decide) (by decide))
      go_wp2_with fail
      refine HC.out.mono ?_
      rintro e w16 ⟨rfl, hA⟩
      clear HA HC
      have HA := Lib.hid hA
      clear hA
      have HO := Lib.hid (al_ord HA.out.1 (l0 := [2, 4, 1, 3]) (n := 4) (Ord.of (by decide) (by decide)) rfl)
      go_wp2_with fail
      refine HO.out.mono ?_
      rintro e w17 ⟨⟨A, c, rfl, hO⟩, hb⟩
      have HA := Lib.hid (HA.out.below hb)
      have HS := Lib.hid (show Calls Try.prog 13 #[.slice A 4 c, .slice (some ⟨w17.heap.size, 0, none⟩) 4 4] (w17.alloc (.cells #[.int .i64 2, .int .i64 4, .int .i64 1, .int .i64 3] 3)) fun e w' => e = .returned (.bool true) ∧ Below (w17.alloc (.cells #[.int .i64 2, .int .i64 4, .int .i64 1, .int .i64 3] 3)).heap.size (w17.alloc (.cells #[.int .i64 2, .int .i64 4, .int .i64 1, .int .i64 3] 3)) w' from k_same w17 hO rfl (l2 := [2, 4, 1, 3]) rfl)
      clear hO hb HO
      have HA := Lib.hid (HA.out.alloc (.cells #[.int .i64 2, .int .i64 4, .int .i64 1, .int .i64 3] 3))
      go_wp2_with fail
      refine HS.out.mono ?_
      rintro e w18 ⟨rfl, hb⟩
      have HA := Lib.hid (HA.out.below hb)
      clear hb HS
      have HC := Lib.hid (k_bump HA.out 3 3 1152921504606846976 false [0, 5, 1073741824, 1152921504606846976, 7] rfl (by decide) (by decide) (by decide) (by decide))
      go_wp2_with fail
      refine HC.out.mono ?_
      rintro e w19 ⟨rfl, hA⟩
      clear HA HC
      have HA := Lib.hid hA
      clear hA
      have HC := Lib.hid (k_bump HA.out 3 3 1 true [0, 0, 1, 1073741824, 0] rfl (by decide) (by decide) (by decide) (by decide))
      go_wp2_with fail
      refine HC.out.mono ?_
      rintro e w20 ⟨rfl, hA⟩
      clear HA HC
      have HA := Lib.hid hA
      clear hA
      have HC := Lib.hid (k_score HA.out 2 1 (by decide))
      go_wp2_with fail
      refine HC.out.mono ?_
      rintro e wx ⟨rfl, rfl⟩
      clear HC
      have HO := Lib.hid (al_ord HA.out.1 (l0 := [3, 2, 1, 4]) (n := 4) (Ord.of (by decide) (by decide)) rfl)
      go_wp2_with fail
      refine HO.out.mono ?_
      rintro e w21 ⟨⟨A, c, rfl, hO⟩, hb⟩
      have HA := Lib.hid (HA.out.below hb)
      have HS := Lib.hid (show Calls Try.prog 13 #[.slice A 4 c, .slice (some ⟨w21.heap.size, 0, none⟩) 4 4] (w21.alloc (.cells #[.int .i64 3, .int .i64 2, .int .i64 1, .int .i64 4] 3)) fun e w' => e = .returned (.bool true) ∧ Below (w21.alloc (.cells #[.int .i64 3, .int .i64 2, .int .i64 1, .int .i64 4] 3)).heap.size (w21.alloc (.cells #[.int .i64 3, .int .i64 2, .int .i64 1, .int .i64 4] 3)) w' from k_same w21 hO rfl (l2 := [3, 2, 1, 4]) rfl)
      clear hO hb HO
      have HA := Lib.hid (HA.out.alloc (.cells #[.int .i64 3, .int .i64 2, .int .i64 1, .int .i64 4] 3))
      go_wp2_with fail
      refine HS.out.mono ?_
      rintro e w22 ⟨rfl, hb⟩
      have HA := Lib.hid (HA.out.below hb)
      clear hb HS
      go_wp2_with fail
      refine (HNA.out _).mono ?_
      rintro e wx ⟨rfl, rfl⟩
      go_wp2_with fail
      refine (HNB.out _).mono ?_
      rintro e wx ⟨rfl, rfl⟩
      go_wp2_with fail
      refine (HN0.out _).mono ?_
      rintro e w8 ⟨⟨g8, rfl, h8⟩, hb8⟩
      have H8 := Lib.hid (show Calls Try.prog 19 #[.pointer (some ⟨g8, 0, none⟩)] w8 fun e w' => e = .returned (.int .i64 0) ∧ w8 = w' from al_size h8)
      have HB8 := Lib.hid (below_then HA.out.2 hb8 HA.out.2.size)
      clear h8 hb8 HA HN0 HNA HNB
      go_wp2_with fail
      refine (HPN.out _).mono ?_
      rintro e wx ⟨rfl, rfl⟩
      go_wp2_with fail
      refine (HTN.out _).mono ?_
      rintro e wx ⟨rfl, rfl⟩
      go_wp2_with fail
      refine (HBN.out _).mono ?_
      rintro e wx ⟨rfl, rfl⟩
      go_wp2_with fail
      refine (H8.out).mono ?_
      rintro e wx ⟨rfl, rfl⟩
      go_wp2_with fail
      refine (HUN.out _).mono ?_
      rintro e wx ⟨rfl, rfl⟩
      go_wp2_with fail
      refine (HRN.out _).mono ?_
      rintro e wx ⟨rfl, rfl⟩
      go_wp2_with fail
      refine (HHN.out _).mono ?_
      rintro e wx ⟨rfl, rfl⟩
      go_wp2_with fail
      refine (HSN.out _).mono ?_
      rintro e wx ⟨rfl, rfl⟩
      go_wp2_with fail
      refine (HZN.out _).mono ?_
      rintro e wx ⟨rfl, rfl⟩
      go_wp2_with fail
      refine (HON.out _).mono ?_
      rintro e wx ⟨rfl, rfl⟩
      go_wp2_with fail
      refine (HCN.out _).mono ?_
      rintro e wx ⟨rfl, rfl⟩
      go_wp2_with fail
      refine (HWK.out _).mono ?_
      rintro e w9 ⟨rfl, hb⟩
      have HB9 := Lib.hid (below_then HB8.out hb HB8.out.size)
      clear hb
      go_wp2
      go_ret
      exact ⟨rfl, HB9.out⟩
end Go.Proofs.Ytienomdennbkpaa.He
