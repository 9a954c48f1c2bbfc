/- container/heap at a heap's row: Pop, Remove. Conditions: the memory. -/
import Derived.Test.YtienomdennbkpaaHg
namespace Go.Proofs.Ytienomdennbkpaa.He
open Go.RowKit Go.Proofs.Ytienomdennbkpaa.Mem Go.Proofs.Ytienomdennbkpaa.Sl Go.Shelf
open Go.Proofs.Ytienomdennbkpaa.FnL (enc_at below_then)
set_option linter.unusedVariables false

/-- What a heap is behind Pop, Remove. -/
def PopR (w : World) (B N : Nat) (q : HA) (l s : List Int) (v : Int) (e : Ending) (w' : World) : Prop :=
  e = .returned (.iface 3 (.int .i64 v)) ∧ ∃ l1, (∃ pl1, HR w' B N q ⟨l1, pl1, s⟩) ∧ (l1 ++ [v]).Perm l ∧ HeapF 0 l1.length (vf s l1) ∧ Mod (mine q) w w'
theorem last_split {l : List Int} {n : Nat} (h : l.length = n + 1) : l = l.take n ++ [l.getD n 0] ∧ (l.take n).length = n := by
  refine ⟨?_, by rw [List.length_take]; omega⟩
  have h1 := List.take_append_drop n l
  have h2 : l.drop n = [l.getD n 0] := by
    rw [List.drop_eq_getElem_cons (by omega), List.getD_eq_getElem?_getD, List.getElem?_eq_getElem (by omega), List.drop_of_length_le (by omega)]
    rfl
  rw [← h2]
  exact h1.symm
/-- The last step of both: the last one is taken off. -/
theorem pop_last {w wr : World} {B N : Nat} {q : HA} {l s l0 l1 : List Int} {n : Nat} {v : Int} (hW : Went w B N q l0 s n wr l1) (hm : Mod (mine q) w wr) (hn : l0.length = n + 1) (hv : l0.getD n 0 = v) (hp : l0.Perm l) (hH : HeapF 0 n (vf s l1)) :
    Calls Try.prog 93 #[.pointer (some ⟨q.g, 0, none⟩)] wr fun e w' => e = .returned (.iface 3 (.int .i64 v)) ∧ ∃ l2, (∃ pl1, HR w' B N q ⟨l2, pl1, s⟩) ∧ (l2 ++ [v]).Perm l ∧ HeapF 0 l2.length (vf s l2) ∧ Mod (mine q) wr w' := by
  obtain ⟨pl1, hr⟩ := hW.hr
  have hl : l1.length = n + 1 := by rw [hW.len, hn]
  obtain ⟨h1, h2⟩ := last_split hl
  rw [hW.tl n (Nat.le_refl _), hv] at h1
  generalize l1.take n = l2 at *
  subst h1
  have hmem : (⟨l2 ++ [v], pl1, s⟩ : HM).l = l2 ++ [v] := rfl
  have hr2 := hr.ord.rg v (by show v ∈ l2 ++ [v]; simp)
  obtain ⟨u, rfl⟩ : ∃ u : Nat, v = u := ⟨v.toNat, by omega⟩
  refine (rpop_any hr).mono fun e w' ⟨k1, k2, k3⟩ => ⟨k1, l2, k2, hW.pm.trans hp, ?_, k3⟩
  rw [h2]
  refine heap_ext hH fun i hi => ?_
  rw [vf_app s l2 _ (by omega)]
set_option maxRecDepth 100000 in
theorem pop_any {w : World} {B N : Nat} {q : HA} {l pl s : List Int} (h : HR w B N q ⟨l, pl, s⟩) (hp : 0 < l.length) (hh : HeapF 0 l.length (vf s l)) :
    Calls Try.prog 39 #[.iface 57 (.pointer (some ⟨q.g, 0, none⟩))] w (PopR w B N q l s (l.getD 0 0)) := by
  obtain ⟨n, hn⟩ : ∃ n, n = l.length - 1 := ⟨_, rfl⟩
  have hln : l.length = n + 1 := by omega
  have HL := Lib.hid (show Calls Try.prog 91 #[.pointer (some ⟨q.g, 0, none⟩)] w fun e w' => e = .returned (.int .i64 ((n : Int) + 1)) ∧ w = w' from by
    have := len_any h
    rw [show ((⟨l, pl, s⟩ : HM).l.length : Int) = (n : Int) + 1 by show (l.length : Int) = _; rw [hln]; rfl] at this
    exact this)
  have HSW := Lib.hid (swap_any h 0 n (by show 0 < l.length; omega) (by show n < l.length; omega))
  have hl : l.length ≤ N := h.lenN
  have hN := h.hN
  have HE := Lib.hid (show ExF 0 n (vf s (sw l 0 n)) 0 from by
    rw [sw_vf s l (by omega) (by omega)]
    refine ⟨fun p c hp0 hc hk h1 h2 => ?_, fun p c hp0 hk => by unfold Kid at hk; omega⟩
    have hpn : p ≠ n := by unfold Kid at hk; omega
    have hcn : c ≠ n := by omega
    rw [swF_k _ h1 hpn, swF_k _ h2 hcn]
    exact hh p c hp0 (by omega) hk)
  have HS := Lib.hid (show (sw l 0 n).length = n + 1 ∧ (sw l 0 n).getD n 0 = l.getD 0 0 ∧ (sw l 0 n).Perm l from ⟨by rw [sw_len]; exact hln, by rw [sw_at l (by omega) (by omega), if_pos rfl], sw_perm l (by omega) (by omega)⟩)
  have hml := m_len
  have hms := m_swap
  have hmp := m_pop
  have hnb : n ≤ 1048576 := by omega
  clear h hh hp hn hln hl
  have e1 : IntKind.i64.wrap ((n : Int) + 1 - 1) = (n : Int) := by rw [IntWalk.i64_in _ (by omega)]; omega
  have e2 : IntKind.i64.wrap (n : Int) = (n : Int) := IntWalk.i64_in _ (by omega)
  go_enter Try.func39, Try.ntmps39
  go_wp2_with fail
  refine HL.out.mono ?_
  rintro e w2 ⟨rfl, rfl⟩
  clear HL
  go_wp2_with fail
  refine HSW.out.mono ?_
  rintro e w3 ⟨rfl, ⟨pl3, hr3⟩, hm3⟩
  have hr3 : HR w3 B N q ⟨sw l 0 n, pl3, s⟩ := hr3
  have HM3 := Lib.hid hm3
  have HD := Lib.hid (down_any hr3 0 0 n (Nat.le_refl _) (Nat.zero_le _) (by rw [HS.out.1]; omega) HE.out)
  clear hr3 hm3 HSW
  go_wp2_with fail
  refine HD.out.mono ?_
  rintro e w4 ⟨b, rfl, l2, hW2, hf, ht⟩
  have HP := Lib.hid (pop_last hW2 hW2.md HS.out.1 HS.out.2.1 HS.out.2.2 (show HeapF 0 n (vf s l2) by
    rcases b with _ | _
    · obtain ⟨rfl, ho⟩ := hf rfl
      exact heap_of HE.out ho fun p _ hk => by unfold Kid at hk; omega
    · exact ht rfl))
  have HM4 := Lib.hid (HM3.out.then_ hW2.md)
  clear hW2 hf ht HD HE HS HM3
  go_wp2_with fail
  refine HP.out.mono ?_
  rintro e w5 ⟨rfl, l3, k1, k2, k3, k4⟩
  have HK := Lib.hid (show (∃ pl1, HR w5 B N q ⟨l3, pl1, s⟩) ∧ (l3 ++ [l.getD 0 0]).Perm l ∧ HeapF 0 l3.length (vf s l3) ∧ Mod (mine q) w w5 from ⟨k1, k2, k3, HM4.out.then_ k4⟩)
  clear k1 k2 k3 k4 HP HM4
  go_wp2
  go_ret
  exact ⟨rfl, l3, HK.out⟩
set_option maxRecDepth 100000 in
set_option maxHeartbeats 1000000 in
theorem remove_any {w : World} {B N : Nat} {q : HA} {l pl s : List Int} (h : HR w B N q ⟨l, pl, s⟩) (i : Nat) (hi : i < l.length) (hh : HeapF 0 l.length (vf s l)) :
    Calls Try.prog 38 #[.iface 57 (.pointer (some ⟨q.g, 0, none⟩)), .int .i64 (i : Int)] w (PopR w B N q l s (l.getD i 0)) := by
  obtain ⟨n, hn⟩ : ∃ n, n = l.length - 1 := ⟨_, rfl⟩
  have hln : l.length = n + 1 := by omega
  have HL := Lib.hid (show Calls Try.prog 91 #[.pointer (some ⟨q.g, 0, none⟩)] w fun e w' => e = .returned (.int .i64 ((n : Int) + 1)) ∧ w = w' from by
    have := len_any h
    rw [show ((⟨l, pl, s⟩ : HM).l.length : Int) = (n : Int) + 1 by show (l.length : Int) = _; rw [hln]; rfl] at this
    exact this)
  have hl : l.length ≤ N := h.lenN
  have hN := h.hN
  have hml := m_len
  have hms := m_swap
  have hmp := m_pop
  have hnb : n ≤ 1048576 := by omega
  have e1 : IntKind.i64.wrap ((n : Int) + 1 - 1) = (n : Int) := by rw [IntWalk.i64_in _ (by omega)]; omega
  have e2 : IntKind.i64.wrap (n : Int) = (n : Int) := IntWalk.i64_in _ (by omega)
  by_cases hni : n = i
  · subst hni
    have HP := Lib.hid (pop_last (Went.refl h n) (Mod.refl _ _) hln rfl (List.Perm.refl _) (hh.less (by omega)))
    clear h hh hn hln hl hi
    go_enter Try.func38, Try.ntmps38
    go_wp2_with fail
    refine HL.out.mono ?_
    rintro e w2 ⟨rfl, rfl⟩
    clear HL
    go_wp2_with fail
    refine HP.out.mono ?_
    rintro e w5 ⟨rfl, l3, k1, k2, k3, k4⟩
    have HK := Lib.hid (show (∃ pl1, HR w5 B N q ⟨l3, pl1, s⟩) ∧ (l3 ++ [l.getD n 0]).Perm l ∧ HeapF 0 l3.length (vf s l3) ∧ Mod (mine q) w w5 from ⟨k1, k2, k3, k4⟩)
    clear k1 k2 k3 k4 HP
    go_wp2
    go_ret
    exact ⟨rfl, l3, HK.out⟩
  have hlt : i < n := by omega
  have hni2 : ¬ (n : Int) = (i : Int) := by omega
  have HSW := Lib.hid (swap_any h i n (by show i < l.length; omega) (by show n < l.length; omega))
  have HE := Lib.hid (show ExF 0 n (vf s (sw l i n)) i from by
    rw [sw_vf s l (by omega) (by omega)]
    exact fix_ex (hh.less (show n ≤ l.length by omega)) hlt fun k hk hne => swF_k _ hne (by omega))
  have HS := Lib.hid (show (sw l i n).length = n + 1 ∧ (sw l i n).getD n 0 = l.getD i 0 ∧ (sw l i n).Perm l from ⟨by rw [sw_len]; exact hln, by rw [sw_at l (by omega) (by omega), if_pos rfl], sw_perm l (by omega) (by omega)⟩)
  clear h hh hn hln hl hi
  go_enter Try.func38, Try.ntmps38
  go_wp2_with fail
  refine HL.out.mono ?_
  rintro e w2 ⟨rfl, rfl⟩
  clear HL
  go_wp2_with fail
  refine HSW.out.mono ?_
  rintro e w3 ⟨rfl, ⟨pl3, hr3⟩, hm3⟩
  have hr3 : HR w3 B N q ⟨sw l i n, pl3, s⟩ := hr3
  have HM3 := Lib.hid hm3
  have HD := Lib.hid (down_any hr3 0 i n (Nat.zero_le _) (by rw [HS.out.1]; omega) (by rw [HS.out.1]; omega) HE.out)
  clear hr3 hm3 HSW
  go_wp2_with fail
  refine HD.out.mono ?_
  rintro e w4 ⟨b, rfl, l2, hW2, hf, ht⟩
  have HW2 := Lib.hid hW2
  clear hW2 HD
  rcases b with _ | _
  · obtain ⟨rfl, ho⟩ := hf rfl
    obtain ⟨pl2, hr2⟩ := HW2.out.hr
    have HU := Lib.hid (up_any hr2 i n hlt (by rw [HS.out.1]; omega) HE.out ho)
    clear hr2 hf ht ho
    go_wp2_with fail
    refine HU.out.mono ?_
    rintro e w5 ⟨rfl, l3, hW3, hH3⟩
    have hW4 := HW2.out.trans hW3
    have HP := Lib.hid (pop_last hW4 hW4.md HS.out.1 HS.out.2.1 HS.out.2.2 hH3)
    have HM4 := Lib.hid (HM3.out.then_ hW4.md)
    clear hW3 hH3 hW4 HU HE HS HM3 HW2
    go_wp2_with fail
    refine HP.out.mono ?_
    rintro e w6 ⟨rfl, l4, k1, k2, k3, k4⟩
    have HK := Lib.hid (show (∃ pl1, HR w6 B N q ⟨l4, pl1, s⟩) ∧ (l4 ++ [l.getD i 0]).Perm l ∧ HeapF 0 l4.length (vf s l4) ∧ Mod (mine q) w w6 from ⟨k1, k2, k3, HM4.out.then_ k4⟩)
    clear k1 k2 k3 k4 HP HM4
    go_wp2
    go_ret
    exact ⟨rfl, l4, HK.out⟩
  · have HP := Lib.hid (pop_last HW2.out HW2.out.md HS.out.1 HS.out.2.1 HS.out.2.2 (ht rfl))
    have HM4 := Lib.hid (HM3.out.then_ HW2.out.md)
    clear hf ht HE HS HM3 HW2
    go_wp2_with fail
    refine HP.out.mono ?_
    rintro e w6 ⟨rfl, l4, k1, k2, k3, k4⟩
    have HK := Lib.hid (show (∃ pl1, HR w6 B N q ⟨l4, pl1, s⟩) ∧ (l4 ++ [l.getD i 0]).Perm l ∧ HeapF 0 l4.length (vf s l4) ∧ Mod (mine q) w w6 from ⟨k1, k2, k3, HM4.out.then_ k4⟩)
    clear k1 k2 k3 k4 HP HM4
    go_wp2
    go_ret
    exact ⟨rfl, l4, HK.out⟩
end Go.Proofs.Ytienomdennbkpaa.He
