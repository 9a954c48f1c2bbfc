/- container/heap at a heap's row: up, down, Init, Push, Pop, Remove, Fix. Conditions: the memory. -/
import Derived.Test.YtienomdennbkpaaHd
namespace Go.Proofs.Ytienomdennbkpaa.He
open Go.RowKit Go.Proofs.Ytienomdennbkpaa.Mem Go.Proofs.Ytienomdennbkpaa.Sl Go.Shelf
open Go.Proofs.Ytienomdennbkpaa.FnL (enc_at below_then)
set_option linter.unusedVariables false

/-- What has been done to a row: the same ones, from n on as they were. -/
structure Went (w : World) (B N : Nat) (q : HA) (l s : List Int) (n : Nat) (wr : World) (l1 : List Int) : Prop where
  hr : ∃ pl1, HR wr B N q ⟨l1, pl1, s⟩
  pm : l1.Perm l
  tl : ∀ i, n ≤ i → l1.getD i 0 = l.getD i 0
  md : Mod (mine q) w wr
section
variable {w wr w2 : World} {B N : Nat} {q : HA} {l s l1 : List Int} {n : Nat}
theorem Went.refl {pl : List Int} (h : HR w B N q ⟨l, pl, s⟩) (n : Nat) : Went w B N q l s n w l := ⟨⟨pl, h⟩, List.Perm.refl _, fun _ _ => rfl, Mod.refl _ _⟩
theorem Went.drewN (h : Went w B N q l s n wr l1) (k : Nat) : Went w B N q l s n (wr.drewN k) l1 := by
  obtain ⟨⟨pl1, h1⟩, h2, h3, h4⟩ := h
  exact ⟨⟨pl1, h1.drewN k⟩, h2, h3, h4.drewN k⟩
theorem Went.len (h : Went w B N q l s n wr l1) : l1.length = l.length := h.pm.length_eq
theorem Went.step {i j : Nat} (h : Went w B N q l s n wr l1) (hi : i < n) (hj : j < n) (hn : n ≤ l.length) (hr : ∃ pl2, HR w2 B N q ⟨sw l1 i j, pl2, s⟩) (hm : Mod (mine q) wr w2) : Went w B N q l s n w2 (sw l1 i j) :=
  ⟨hr, (sw_perm l1 (by rw [h.len]; omega) (by rw [h.len]; omega)).trans h.pm, fun k hk => by
    rw [sw_at l1 (by rw [h.len]; omega) (by rw [h.len]; omega), if_neg (by omega), if_neg (by omega)]
    exact h.tl k hk, h.md.then_ hm⟩
end
def UpR (w : World) (B N : Nat) (q : HA) (l s : List Int) (n : Nat) (e : Ending) (w' : World) : Prop := e = .returned (.tuple #[]) ∧ ∃ l1, Went w B N q l s n w' l1 ∧ HeapF 0 n (vf s l1)
theorem m_less (w : World) (g : Nat) : (method 221 57 (.pointer (some ⟨g, 0, none⟩)) "Less").run Try.prog w = .ok (92, .pointer (some ⟨g, 0, none⟩)) w := by kernel_rfl
theorem m_swap (w : World) (g : Nat) : (method 221 57 (.pointer (some ⟨g, 0, none⟩)) "Swap").run Try.prog w = .ok (95, .pointer (some ⟨g, 0, none⟩)) w := by kernel_rfl
set_option maxRecDepth 100000 in
theorem up_any {w : World} {B N : Nat} {q : HA} {l pl s : List Int} (h : HR w B N q ⟨l, pl, s⟩) (j n : Nat) (hj : j < n) (hn : n ≤ l.length) (he : ExF 0 n (vf s l) j) (ho : OutF n (vf s l) j) :
    Calls Try.prog 50 #[.iface 57 (.pointer (some ⟨q.g, 0, none⟩)), .int .i64 (j : Int)] w (UpR w B N q l s n) := by
  have HW := Lib.hid (Went.refl h n)
  have HE := Lib.hid he
  have HO := Lib.hid ho
  have hl : l.length ≤ N := h.lenN
  have hN := h.hN
  have hml := m_less
  have hms := m_swap
  clear h he ho
  go_enter Try.func50, Try.ntmps50
  go_wp2_with fail
  go_loopw [1, 4] (fun i _ wr => ∃ (k : Nat) (l1 : List Int), k < n ∧ i = .int .i64 k ∧ Went w B N q l s n wr l1 ∧ ExF 0 n (vf s l1) k ∧ OutF n (vf s l1) k) (fun i _ _ => (intOf i).toNat)
  case atStart => exact ⟨j, l, hj, rfl, HW.out, HE.out, HO.out⟩
  case round =>
    clear HW HE HO
    obtain ⟨k, l1, hk, rfl, hW, hE, hO⟩ := hrel
    have HW := Lib.hid hW
    have HE := Lib.hid hE
    have HO := Lib.hid hO
    have hll := hW.len
    clear hW hE hO
    rcases Nat.eq_zero_or_pos k with rfl | hkp
    · have e0 : (((0 : Nat) : Int) - 1).tdiv 2 = 0 := by decide
      go_wp2
      go_end0
      exact ⟨rfl, l1, HW.out, heap_of HE.out HO.out (fun p _ hp => by unfold Kid at hp; omega)⟩
    · obtain ⟨p, hp⟩ : ∃ p : Nat, p = (k - 1) / 2 := ⟨_, rfl⟩
      have e1 : ((k : Int) - 1).tdiv 2 = (p : Int) := by
        rw [show (k : Int) - 1 = ((k - 1 : Nat) : Int) by omega, Int.tdiv_eq_ediv_of_nonneg (by omega), hp]
        omega
      have hpk : Kid p k := by unfold Kid; omega
      have hne : ¬ (p : Int) = (k : Int) := by omega
      have hpn : p < k := by omega
      have HLE := Lib.hid (fun W pl1 (h1 : HR W B N q ⟨l1, pl1, s⟩) => less_any h1 k p (by show k < l1.length; omega) (by show p < l1.length; omega))
      have HSW := Lib.hid (fun W pl1 (h1 : HR W B N q ⟨l1, pl1, s⟩) => swap_any h1 p k (by show p < l1.length; omega) (by show k < l1.length; omega))
      clear hp
      by_cases hlt : vf s l1 k < vf s l1 p
      · have hb : decide (vf s l1 k < vf s l1 p) = true := decide_eq_true hlt
        obtain ⟨hE2, hO2⟩ := up_step HE.out HO.out hpk hk hlt
        rw [← sw_vf s l1 (by omega) (by omega)] at hE2 hO2
        have HE2 := Lib.hid hE2
        have HO2 := Lib.hid hO2
        clear hE2 hO2
        obtain ⟨pl1, hr⟩ := HW.out.hr
        have HL1 := Lib.hid (HLE.out _ _ hr)
        rw [show decide (vf (⟨l1, pl1, s⟩ : HM).s (⟨l1, pl1, s⟩ : HM).l k < vf (⟨l1, pl1, s⟩ : HM).s (⟨l1, pl1, s⟩ : HM).l p) = true from hb] at HL1
        clear hr hlt hb
        go_wp2_with fail
        refine HL1.out.mono ?_
        rintro e w2 ⟨rfl, nd, rfl⟩
        have HW2 := Lib.hid (HW.out.drewN nd)
        obtain ⟨pl2, hr2⟩ := HW2.out.hr
        have HS1 := Lib.hid (HSW.out _ _ hr2)
        clear hr2 HL1 HLE HSW
        go_wp2_with fail
        refine HS1.out.mono ?_
        rintro e w3 ⟨rfl, hr3, hm3⟩
        have HW3 := Lib.hid (HW2.out.step (by omega) hk hn hr3 hm3)
        clear hr3 hm3 HS1
        go_wp2
        go_roundw
        case rel => exact ⟨p, _, by omega, rfl, HW3.out, HE2.out, HO2.out⟩
        case measure => simp [intOf]; omega
      · have hb : decide (vf s l1 k < vf s l1 p) = false := decide_eq_false hlt
        obtain ⟨pl1, hr⟩ := HW.out.hr
        have HL1 := Lib.hid (HLE.out _ _ hr)
        rw [show decide (vf (⟨l1, pl1, s⟩ : HM).s (⟨l1, pl1, s⟩ : HM).l k < vf (⟨l1, pl1, s⟩ : HM).s (⟨l1, pl1, s⟩ : HM).l p) = false from hb] at HL1
        clear hr hb
        go_wp2_with fail
        refine HL1.out.mono ?_
        rintro e w2 ⟨rfl, nd, rfl⟩
        go_wp2
        go_end0
        exact ⟨rfl, l1, HW.out.drewN nd, heap_of HE.out HO.out (fun p' _ hp' => by
          obtain rfl : p' = p := by unfold Kid at hp' hpk; omega
          omega)⟩
end Go.Proofs.Ytienomdennbkpaa.He
