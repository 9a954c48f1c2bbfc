/- The document's queue: Next, Copy, New; in of the law. Conditions: the memory, numbers below a million. -/
import Derived.Test.YtgldhnjbodmbbaaQk
import Derived.Test.YtgldhnjbodmbbaaQd
namespace Go.Proofs.Ytgldhnjbodmbbaa.Qu
open Go.RowKit Go.Proofs.Ytgldhnjbodmbbaa.Mem Go.Proofs.Ytgldhnjbodmbbaa.Sl Go.Shelf
open Go.Proofs.Ytgldhnjbodmbbaa.FnL (enc_at below_then)
set_option linter.unusedVariables false

theorem rnext_any {w : World} {base g : Nat} {d : DR} {m : QM} (h : RqR w base g d) (hi : DInv m d) (B : Option Addr) (n cb : Nat) (bs : List Bool) (hn : n = bs.length) (hr : RdV w B (bs.map Value.bool)) (hmx : n ≤ 4000000) :
    Calls Try.prog 32 #[.pointer (some ⟨g, 0, none⟩), .slice B n cb] w fun e w' => e = .returned (.tuple #[.int .i64 (ansN m.row bs : Nat), .bool (decide (ansN m.row bs ≠ 0))]) ∧ w = w' := by
  have HI := Lib.hid hi
  have HR := Lib.hid hr
  have HN := Lib.hid hn
  have HO := Lib.hid h.r
  have c0 : w.cell? ⟨g, 0, none⟩ = some (.slice d.rA d.row.length d.rc) := h.blk.cell 0
  have hdl : d.row.length = m.row.length := by rw [hi.row, rowI_len]
  have hlen : m.row.length ≤ 1048576 := by rw [hi.w.len]; exact hi.w.N
  rw [hdl] at c0
  have HDL := Lib.hid hdl
  have hNN : m.N ≤ 1048576 := hi.w.N
  have HPOS := Lib.hid (fun i (hil : i < m.row.length) => ((hi.w.mem _).1 (List.getElem_mem hil)))
  have HROW := Lib.hid (fun i (hil : i < m.row.length) => (show ∃ b, d.rA = some ⟨b, 0, none⟩ ∧ w.cell? ⟨b, i, none⟩ = some (.int .i64 ((m.row[i] : Nat) : Int)) from by
    obtain ⟨b, e, hc⟩ := Own.at_ h.r (k := i) (by rw [hdl]; exact hil)
    refine ⟨b, e, ?_⟩
    rw [hc]
    congr 2
    have : d.row[i]? = some ((m.row[i] : Nat) : Int) := by rw [hi.row]; unfold rowI; rw [List.getElem?_map, List.getElem?_eq_getElem hil]; rfl
    rw [List.getElem?_eq_getElem (by rw [hdl]; exact hil)] at this
    exact Option.some.inj this))
  clear h hi hr hn hdl
  obtain ⟨L, hL⟩ : ∃ L, m.row.length = L := ⟨_, rfl⟩
  rw [hL] at c0 hlen
  have HLL := Lib.hid hL
  clear hL
  have e0 : IntKind.i64.wrap ((L : Int) - 1) = (L : Int) - 1 := IntWalk.i64_in _ (by omega)
  go_enter Try.func32, Try.ntmps32
  go_wp2_with fail
  go_loopw [6] (fun i wr => ∃ k : Nat, k ≤ L ∧ i = .int .i64 ((k : Int) - 1) ∧ (∀ j (hj : j < m.row.length), k ≤ j → isSet bs m.row[j] = true) ∧ w = wr) (fun i _ => (intOf i + 1).toNat)
  case atStart => exact ⟨L, Nat.le_refl _, rfl, fun j hj h => by have := HLL.out; omega, rfl⟩
  case round =>
    obtain ⟨k, hk, rfl, hs, rfl⟩ := hrel
    have HS := Lib.hid hs
    clear hs
    rcases k with _ | j
    · have hans : ansN m.row bs = (cyc m.row).getD 0 0 := ans_of 0 (Nat.zero_le _) (fun j hj _ => HS.out j hj (Nat.zero_le _)) (fun j _ e => by omega)
      rw [cyc_zero] at hans
      have HA := Lib.hid hans
      clear hans
      have hz : ¬ (0 : Int) ≤ ((0 : Nat) : Int) - 1 := by omega
      go_wp2
      go_ret2
      exact ⟨by rw [HA.out]; rfl, rfl⟩
    · have hjl : j < m.row.length := by have := HLL.out; omega
      have hp := HPOS.out j (by have := HLL.out; omega)
      obtain ⟨b, e1, hc⟩ := HROW.out j (by have := HLL.out; omega)
      have HNS := Lib.hid (show isSet bs m.row[j] = true → ∀ i (hi : i < m.row.length), j ≤ i → isSet bs m.row[i] = true from fun hh i hi hji => by
        by_cases e : i = j
        · subst e; exact hh
        · exact HS.out i hi (by omega))
      have HAN := Lib.hid (show isSet bs m.row[j] = false → ansN m.row bs = m.row[j] from fun hh => by
        have := ans_of (row := m.row) (set := bs) (j + 1) (by omega) (fun i hi h => HS.out i hi h) (fun i hi e => by
          obtain rfl : j = i := by omega
          exact hh)
        rwa [cyc_mid hjl] at this)
      have HDT := Lib.hid (show isSet bs m.row[j] = (decide (m.row[j] ≤ n) && bs.getD (m.row[j] - 1) false) from by unfold isSet; rw [HN.out])
      rw [e1] at c0
      have ej : (((j + 1 : Nat) : Int) - 1) = (j : Int) := by omega
      rw [ej]
      have hj0 : (0 : Int) ≤ (j : Int) := Int.natCast_nonneg _
      have hj1 : (j : Int) < (L : Int) := by have := HLL.out; omega
      clear e1 ej
      generalize m.row[j]'hjl = v at *
      obtain ⟨u, rfl⟩ : ∃ u : Nat, v = u + 1 := ⟨v - 1, by omega⟩
      have e1 : IntKind.i64.wrap (((u + 1 : Nat) : Int) - 1) = (u : Int) := by rw [IntWalk.i64_in _ (by omega)]; omega
      have e2 : IntKind.i64.wrap ((u : Int) + 1 - 1) = (u : Int) := by rw [IntWalk.i64_in _ (by omega)]; omega
      have hd0 : decide (u + 1 ≠ 0) = true := decide_eq_true (by omega)
      by_cases hun : u + 1 ≤ n
      · have hul : u < bs.length := by rw [← HN.out]; omega
        obtain ⟨bt, ot, eB, _, hct⟩ := RdV.at_ HR.out (enc_at (enc := Value.bool) hul)
        have HD2 := Lib.hid (show isSet bs (u + 1) = bs[u] from by
          rw [HDT.out, decide_eq_true hun, Bool.true_and, Nat.add_sub_cancel, List.getD_eq_getElem?_getD, List.getElem?_eq_getElem hul]; rfl)
        have hu3 : ¬ (n : Int) < ((u + 1 : Nat) : Int) := by omega
        have hu6 : ¬ n < u + 1 := by omega
        have hu4 : (u : Int) < (n : Int) := by omega
        have hu5 : (0 : Int) ≤ (u : Int) := Int.natCast_nonneg _
        generalize bs[u]'hul = z at *
        subst eB
        rcases z with _ | _
        · have HE := Lib.hid (HAN.out HD2.out)
          clear HAN HNS HD2 HDT hul hjl
          have HD0 := Lib.hid hd0
          clear hd0
          go_wp2
          go_ret2
          exact ⟨by rw [HE.out]; first | rfl | simp, rfl⟩
        · have HE := Lib.hid (HNS.out HD2.out)
          clear HAN HNS HD2 HDT hul hjl hd0
          have e5 : IntKind.i64.wrap ((j : Int) - 1) = (j : Int) - 1 := IntWalk.i64_in _ (by omega)
          go_wp2
          go_roundw
          case rel => exact ⟨j, by omega, by first | rfl | (rw [e5]), HE.out, trivial⟩
          case measure => simp only [intOf]; first | omega | (rw [e5]; omega)
      · have HE := Lib.hid (HAN.out (by rw [HDT.out, decide_eq_false hun, Bool.false_and]))
        have hu3 : (n : Int) < ((u + 1 : Nat) : Int) := by omega
        have hu6 : n < u + 1 := by omega
        clear HAN HNS HDT hjl
        have HD0 := Lib.hid hd0
        clear hd0
        go_wp2
        go_ret2
        exact ⟨by rw [HE.out]; first | rfl | simp, rfl⟩
def RCopyR (w : World) (m : QM) (e : Ending) (w' : World) : Prop := ∃ g d, e = .returned (.pointer (some ⟨g, 0, none⟩)) ∧ RqR w' w.heap.size g d ∧ DInv m d
theorem rcopy_any {w : World} {base g : Nat} {d : DR} {m : QM} (h : RqR w base g d) (hi : DInv m d) :
    Calls Try.prog 20 #[.pointer (some ⟨g, 0, none⟩)] w fun e w' => RCopyR w m e w' ∧ Below w.heap.size w w' := by
  have H := Lib.hid h
  have HI := Lib.hid hi
  have hl1 : d.row.length ≤ 1048576 := by rw [hi.len.1]; exact hi.w.N
  have hl2 : d.st.length ≤ 1048577 := by rw [hi.len.2]; have := hi.w.N; omega
  have c0 : w.cell? ⟨g, 0, none⟩ = some (.slice d.rA d.row.length d.rc) := h.blk.cell 0
  have HNR := Lib.hid (show d.rA = none → d.rc = 0 from fun e => by
    obtain ⟨_, ⟨_, e2, _⟩ | ⟨j, e2, _⟩⟩ := h.r
    · exact e2
    · rw [e2] at e; cases e)
  have HNS := Lib.hid (show d.sA = none → d.sc = 0 from fun e => by
    obtain ⟨_, ⟨_, e2, _⟩ | ⟨j, e2, _⟩⟩ := h.s
    · exact e2
    · rw [e2] at e; cases e)
  clear h hi
  go_enter Try.func20, Try.ntmps20
  go_upto_region 3 with (at_builtin; refine wpAppZ rfl _ _ rfl w.heap.size none 0 0 [] rfl (App.Own.nil _ _ _) d.rA d.row.length d.rc d.row rfl rfl H.out.r.rd HNR.out (by omega) (Nat.le_refl _) d.row.length (Nat.zero_add _) ?_; intro A1 c1 w1 hO hb; have HO1 := Lib.hid hO; have HB1 := Lib.hid hb; clear hO hb)
  have d1 : w1.cell? ⟨g, 1, none⟩ = some (.slice d.sA d.st.length d.sc) := (H.out.below HB1.out).blk.cell 1
  clear c0
  go_upto_region 5 with (at_builtin; refine wpAppJ rfl _ _ rfl w1.heap.size none 0 0 [] rfl (App.Own.nil _ _ _) d.sA d.st.length d.sc d.st rfl rfl (H.out.below HB1.out).s.rd HNS.out (by omega) (Nat.le_refl _) d.st.length (Nat.zero_add _) ?_; intro A2 c2 w2 hO hg; have HO2 := Lib.hid hO; have HB2 := Lib.hid (show Below w1.heap.size w1 w2 from (Mod.grown hg).below (fun i _ e => by cases e) (Nat.le_refl _)); clear hO hg)
  have HB := Lib.hid (below_then HB1.out HB2.out HB1.out.size)
  have d2 : w2.cell? ⟨g, 2, none⟩ = some (.int .i64 d.moved) := (H.out.below HB.out).blk.cell 2
  clear d1
  have HF := Lib.hid (show RCopyR w m (.returned (.pointer (some ⟨w2.heap.size, 0, none⟩))) (w2.alloc (.cells #[.slice A1 d.row.length c1, .slice A2 d.st.length c2, .int .i64 d.moved] 62)) ∧ Below w.heap.size w (w2.alloc (.cells #[.slice A1 d.row.length c1, .slice A2 d.st.length c2, .int .i64 d.moved] 62)) from
    ⟨⟨_, { d with rA := A1, rc := c1, sA := A2, sc := c2 }, rfl, ⟨Blk.new w2 _ _, (HO1.out.below HB2.out).alloc _, (HO2.out.low HB1.out.size).alloc _, Nat.le_trans HB1.out.size HB2.out.size⟩, ⟨HI.out.w, HI.out.row, HI.out.st, HI.out.moved, HI.out.z⟩⟩, HB.out.alloc HB.out.size _⟩)
  go_wp2
  go_ret
  exact HF.out
end Go.Proofs.Ytgldhnjbodmbbaa.Qu
