/- container/heap at a heap's row: Init, Push, Pop, Remove, Fix. Conditions: the memory. -/
import Derived.Test.YtienomdennbkpaaHf
namespace Go.Proofs.Ytienomdennbkpaa.He
open Go.RowKit Go.Proofs.Ytienomdennbkpaa.Mem Go.Proofs.Ytienomdennbkpaa.Sl Go.Shelf
open Go.Proofs.Ytienomdennbkpaa.FnL (enc_at below_then)
set_option linter.unusedVariables false

theorem m_len (w : World) (g : Nat) : (method 221 57 (.pointer (some ⟨g, 0, none⟩)) "Len").run Try.prog w = .ok (91, .pointer (some ⟨g, 0, none⟩)) w := by kernel_rfl
theorem m_push (w : World) (g : Nat) : (method 221 57 (.pointer (some ⟨g, 0, none⟩)) "Push").run Try.prog w = .ok (94, .pointer (some ⟨g, 0, none⟩)) w := by kernel_rfl
theorem m_pop (w : World) (g : Nat) : (method 221 57 (.pointer (some ⟨g, 0, none⟩)) "Pop").run Try.prog w = .ok (93, .pointer (some ⟨g, 0, none⟩)) w := by kernel_rfl
section
variable {w wr w2 : World} {B N : Nat} {q : HA} {l s l1 l2 : List Int} {n : Nat}
theorem Went.trans (h : Went w B N q l s n wr l1) (k : Went wr B N q l1 s n w2 l2) : Went w B N q l s n w2 l2 :=
  ⟨k.hr, k.pm.trans h.pm, fun i hi => (k.tl i hi).trans (h.tl i hi), h.md.then_ k.md⟩
end
set_option maxRecDepth 100000 in
theorem init_any {w : World} {B N : Nat} {q : HA} {l pl s : List Int} (h : HR w B N q ⟨l, pl, s⟩) :
    Calls Try.prog 30 #[.iface 57 (.pointer (some ⟨q.g, 0, none⟩))] w (UpR w B N q l s l.length) := by
  have HL := Lib.hid (len_any h)
  have HW := Lib.hid (Went.refl h l.length)
  have hl : l.length ≤ N := h.lenN
  have hN := h.hN
  have hml := m_len
  obtain ⟨n, hn⟩ : ∃ n, n = l.length := ⟨_, rfl⟩
  have HL := Lib.hid (show Calls Try.prog 91 #[.pointer (some ⟨q.g, 0, none⟩)] w fun e w' => e = .returned (.int .i64 (n : Int)) ∧ w = w' from hn ▸ HL.out)
  have HN := Lib.hid hn
  rw [← hn] at hl
  clear h hn
  obtain ⟨m, hm⟩ : ∃ m : Nat, m = n / 2 := ⟨_, rfl⟩
  have e1 : (n : Int).tdiv 2 = (m : Int) := by
    rw [Int.tdiv_eq_ediv_of_nonneg (by omega), hm]
    omega
  have hm0 : m ≤ n := by omega
  have HM := Lib.hid hm
  clear hm
  go_enter Try.func30, Try.ntmps30
  go_wp2_with fail
  refine HL.out.mono ?_
  rintro e w2 ⟨rfl, rfl⟩
  go_wp2_with fail
  go_loopw [3] (fun i wr => ∃ (k : Nat) (l1 : List Int), k ≤ m ∧ i = .int .i64 ((k : Int) - 1) ∧ Went w B N q l s n wr l1 ∧ HeapF k n (vf s l1)) (fun i _ => (intOf i + 1).toNat)
  case atStart => exact ⟨m, l, Nat.le_refl _, rfl, HN.out ▸ HW.out, heap_top _ (by have := HM.out; omega)⟩
  case round =>
    clear HW
    obtain ⟨k, l1, hk, rfl, hW, hH⟩ := hrel
    have HW := Lib.hid hW
    have HH := Lib.hid hH
    clear hW hH
    rcases Nat.eq_zero_or_pos k with rfl | hkp
    · have e2 : ¬ (0 : Int) ≤ ((0 : Nat) : Int) - 1 := by omega
      go_wp2
      go_end0
      exact ⟨rfl, l1, HN.out ▸ HW.out, HN.out ▸ HH.out⟩
    · obtain ⟨i, rfl⟩ : ∃ i, k = i + 1 := ⟨k - 1, by omega⟩
      have e3 : ((i + 1 : Nat) : Int) - 1 = (i : Int) := by omega
      rw [e3]
      have hi0 : (0 : Int) ≤ (i : Int) := by omega
      obtain ⟨pl1, hr⟩ := HW.out.hr
      have hll := HW.out.len
      have HD := Lib.hid (down_any hr i i n (Nat.le_refl _) (by rw [hll, ← HN.out]; omega) (by rw [hll, ← HN.out]; exact Nat.le_refl _) (init_ex HH.out).1)
      clear hr e3 hll
      go_wp2_with fail
      refine HD.out.mono ?_
      rintro e w3 ⟨b, rfl, l2, hW2, hf, ht⟩
      have HW2 := Lib.hid (HW.out.trans hW2)
      have HH2 := Lib.hid (show HeapF i n (vf s l2) by
        rcases b with _ | _
        · obtain ⟨rfl, ho⟩ := hf rfl
          exact heap_of (init_ex HH.out).1 ho (init_ex HH.out).2
        · exact ht rfl)
      clear hf ht hW2 HD
      go_wp2
      go_roundw
      case rel => exact ⟨i, l2, by omega, rfl, HW2.out, HH2.out⟩
      case measure => simp [intOf]
set_option maxRecDepth 100000 in
theorem fix_any {w : World} {B N : Nat} {q : HA} {l pl s : List Int} (h : HR w B N q ⟨l, pl, s⟩) (i : Nat) (hi : i < l.length) (he : ExF 0 l.length (vf s l) i) :
    Calls Try.prog 31 #[.iface 57 (.pointer (some ⟨q.g, 0, none⟩)), .int .i64 (i : Int)] w (UpR w B N q l s l.length) := by
  have HL := Lib.hid (len_any h)
  have HD := Lib.hid (down_any h 0 i l.length (Nat.zero_le _) (by omega) (Nat.le_refl _) he)
  have HE := Lib.hid he
  have HI := Lib.hid hi
  have hml := m_len
  have HL := Lib.hid (show Calls Try.prog 91 #[.pointer (some ⟨q.g, 0, none⟩)] w fun e w' => e = .returned (.int .i64 (l.length : Int)) ∧ w = w' from HL.out)
  clear h he hi
  go_enter Try.func31, Try.ntmps31
  go_wp2_with fail
  refine HL.out.mono ?_
  rintro e w2 ⟨rfl, rfl⟩
  go_wp2_with fail
  refine HD.out.mono ?_
  rintro e w3 ⟨b, rfl, l2, hW2, hf, ht⟩
  have HW2 := Lib.hid hW2
  clear HD HL hW2
  rcases b with _ | _
  · obtain ⟨rfl, ho⟩ := hf rfl
    obtain ⟨pl2, hr2⟩ := HW2.out.hr
    have HU := Lib.hid (up_any hr2 i l2.length HI.out (Nat.le_refl _) HE.out ho)
    clear hr2 hf ht ho
    go_wp2_with fail
    refine HU.out.mono ?_
    rintro e w4 ⟨rfl, l3, hW3, hH3⟩
    have HW3 := Lib.hid (HW2.out.trans hW3)
    have HH3 := Lib.hid hH3
    clear hW3 hH3
    go_wp2
    go_end0
    exact ⟨rfl, l3, HW3.out, HH3.out⟩
  · have HH := Lib.hid (ht rfl)
    clear hf ht
    go_wp2
    go_end0
    exact ⟨rfl, l2, HW2.out, HH.out⟩
/-- What a heap is behind Push. -/
def PushR (w : World) (B N : Nat) (q : HA) (l s : List Int) (v : Nat) (e : Ending) (w' : World) : Prop :=
  e = .returned (.tuple #[]) ∧ ∃ q' l1, ((∃ pl1, HR w' B N q' ⟨l1, pl1, s⟩) ∧ q'.g = q.g ∧ ∀ i, mine q' i → mine q i ∨ w.heap.size ≤ i) ∧ l1.Perm (l ++ [(v : Int)]) ∧ HeapF 0 l1.length (vf s l1) ∧ Mod (mine q) w w'
theorem vf_app (s l : List Int) (v : Int) {i : Nat} (h : i < l.length) : vf s (l ++ [v]) i = vf s l i := by
  unfold vf
  rw [show (l ++ [v]).getD i 0 = l.getD i 0 by simp [List.getD_eq_getElem?_getD, List.getElem?_append_left h]]
set_option maxRecDepth 100000 in
theorem push_any {w : World} {B N : Nat} {q : HA} {l pl s : List Int} (h : HR w B N q ⟨l, pl, s⟩) (hB : B ≤ w.heap.size) (v : Nat) (hv : 1 ≤ v ∧ v ≤ N) (hn : (v : Int) ∉ l) (hh : HeapF 0 l.length (vf s l)) :
    Calls Try.prog 32 #[.iface 57 (.pointer (some ⟨q.g, 0, none⟩)), .iface 3 (.int .i64 (v : Int))] w (PushR w B N q l s v) := by
  have HP := Lib.hid (rpush_any h hB v hv hn)
  have HH := Lib.hid hh
  have hl : l.length ≤ N := h.lenN
  have hN := h.hN
  have hml := m_len
  have hmp := m_push
  clear h hh hn hB
  obtain ⟨n, hnn⟩ : ∃ n, n = l.length := ⟨_, rfl⟩
  have HN := Lib.hid hnn
  rw [← hnn] at hl
  clear hnn
  go_enter Try.func32, Try.ntmps32
  go_wp2_with fail
  refine HP.out.mono ?_
  rintro e w2 ⟨rfl, ⟨q', pl', hr, hg, hmi⟩, hm⟩
  have hr : HR w2 B N q' ⟨l ++ [(v : Int)], pl', s⟩ := hr
  have hlen : (l ++ [(v : Int)]).length = n + 1 := by simp [HN.out]
  have HL := Lib.hid (show Calls Try.prog 91 #[.pointer (some ⟨q'.g, 0, none⟩)] w2 fun e w' => e = .returned (.int .i64 ((n : Int) + 1)) ∧ w2 = w' from by
    have := len_any hr
    rw [show ((⟨l ++ [(v : Int)], pl', s⟩ : HM).l.length : Int) = (n : Int) + 1 by show ((l ++ [(v : Int)]).length : Int) = _; rw [hlen]; rfl] at this
    exact this)
  have HU := Lib.hid (up_any hr n (n + 1) (by omega) (by rw [hlen]; exact Nat.le_refl _) (push_ex (HN.out ▸ HH.out) fun i hi => vf_app s l v (by rw [← HN.out]; exact hi)).1 (push_ex (HN.out ▸ HH.out) fun i hi => vf_app s l v (by rw [← HN.out]; exact hi)).2)
  rw [hg] at HL HU
  have HM := Lib.hid hm
  have HG := Lib.hid hg
  have HMI := Lib.hid hmi
  have HLEN := Lib.hid hlen
  clear hm hg hmi hr hlen HP
  have e1 : IntKind.i64.wrap ((n : Int) + 1 - 1) = (n : Int) := by rw [IntWalk.i64_in _ (by omega)]; omega
  have e2 : IntKind.i64.wrap (n : Int) = (n : Int) := IntWalk.i64_in _ (by omega)
  go_wp2_with fail
  refine HL.out.mono ?_
  rintro e w3 ⟨rfl, rfl⟩
  go_wp2_with fail
  refine HU.out.mono ?_
  rintro e w4 ⟨rfl, l3, hW3, hH3⟩
  have HW3 := Lib.hid hW3
  have HH3 := Lib.hid hH3
  clear hW3 hH3
  go_wp2
  go_end0
  refine ⟨rfl, q', l3, ⟨HW3.out.hr, HG.out, HMI.out⟩, HW3.out.pm, ?_, HM.out.trans HW3.out.md fun i hi hm => (HMI.out i hm).resolve_right (by omega)⟩
  rw [HW3.out.len, HLEN.out]
  exact HH3.out
end Go.Proofs.Ytienomdennbkpaa.He
