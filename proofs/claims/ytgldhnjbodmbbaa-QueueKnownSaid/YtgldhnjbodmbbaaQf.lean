/- Queue: Next: what it answers and leaves. Conditions: the memory, at most four million bools. -/
import Derived.Test.YtgldhnjbodmbbaaQe
namespace Go.Proofs.Ytgldhnjbodmbbaa.Qu
open Go.RowKit Go.Proofs.Ytgldhnjbodmbbaa.Mem Go.Proofs.Ytgldhnjbodmbbaa.Sl Go.Shelf
open Go.Proofs.Ytgldhnjbodmbbaa.FnL (enc_at below_then)
set_option linter.unusedVariables false

theorem run_neq_slice_nil {P : Program} (w : World) (t e : TypeId) (a : Option Addr) (n c n' c' : Nat) (h : P.underlying t = some (.slice e)) :
    (binOp .neq t (.slice a n c) (.slice none n' c')).run P w = .ok (.bool (!a.isNone)) w := by
  simp only [binOp]
  simp [Op.equal, Op.maxDepth, Lib.run_equalIn_slice_nil w 9999 t e a n c n' c' h]
theorem idx_cyc {row : List Nat} (nd : row.Nodup) (h0 : 0 ∉ row) {k : Nat} (hk : k ≤ row.length) : (cyc row).idxOf ((cyc row).getD k 0) = k := by
  rcases k with _ | k
  · simp [cyc]
  · rw [cyc_mid (show k < row.length by omega)]
    have hne : row[k] ≠ 0 := fun e => h0 (e ▸ List.getElem_mem _)
    unfold cyc
    rw [List.idxOf_cons, show ((0 : Nat) == row[k]) = false from beq_eq_false_iff_ne.2 (fun e => hne e.symm), cond_false, List.idxOf_append, if_pos (List.getElem_mem _), List.Nodup.idxOf_getElem nd]
/-- What Next of a queue answers and leaves. -/
def NextR (w : World) (base g : Nat) (m : QM) (r : QR) (bs : List Bool) (e : Ending) (w' : World) : Prop :=
  e = .returned (.tuple #[.int .i64 (ansN m.row bs : Nat), .bool (decide (ansN m.row bs ≠ 0))]) ∧ ∃ r', QuR w' base g r' ∧ Inv m r' ∧ (r'.aA = r.aA ∧ r'.bA = r.bA ∧ r'.sA = r.sA ∧ r'.met = bs) ∧ Mod (fun i => i = g) w w'
theorem next_nil (B : Option Addr) (n cb : Nat) (w : World) : Calls Try.prog 16 #[.pointer none, .slice B n cb] w fun e w' => e = .returned (.tuple #[.int .i64 0, .bool false]) ∧ w = w' := by
  go_enter Try.func16, Try.ntmps16
  go_wp2
  go_ret2
  exact ⟨rfl, rfl⟩
set_option maxRecDepth 100000 in
set_option maxHeartbeats 4000000 in
theorem next_any {w : World} {base g : Nat} {m : QM} {r : QR} (h : QuR w base g r) (hi : Inv m r) (B : Option Addr) (n cb : Nat) (bs : List Bool) (hn : n = bs.length) (hr : RdV w B (bs.map Value.bool)) (hmx : n ≤ 4000000) (hmm : r.met.length ≤ 4000000) :
    Calls Try.prog 16 #[.pointer (some ⟨g, 0, none⟩), .slice B n cb] w fun e w' => NextR w base g m r bs e w' := by
  obtain ⟨bh, ah, hb, ha, hlk⟩ := hi.lk
  have H := Lib.hid h
  have HI := Lib.hid hi
  have HLK := Lib.hid hlk
  have HLE := Lib.hid (fun i => cyc_le (fun v hv => (hi.w.mem v).1 hv) i)
  have HNN := Lib.hid hi.N
  have HR := Lib.hid hr
  have HN := Lib.hid hn
  have hlN := hi.w.N
  have HAC := Lib.hid (fun (W : World) (hbw : Below w.heap.size w W) (v : Nat) (hv : v ≤ r.N) => (show W.cell? ⟨r.aA, v, none⟩ = some (.int .i64 (ah v : Int)) from by
    have := (h.below hbw).a.cell (arr_at hv)
    rwa [ha] at this))
  have HIX := Lib.hid (fun (k : Nat) (hk : k ≤ m.row.length) => idx_cyc hi.w.nd hi.w.zero hk)
  have HPOS := Lib.hid (fun i (hil : i < m.row.length) => ((hi.w.mem _).1 (List.getElem_mem hil)))
  have HEQ := Lib.hid (equal_bool (w := w) r.mA r.met.length r.mc r.met rfl h.met.rd B n cb bs hn hr hmm hmx)
  have HCL := Lib.hid (fun (W : World) (hbw : Below w.heap.size w W) => clone_bool (w := W) B n cb (bs.map Value.bool) (by simpa using hn) (hr.below hbw) (fun u hu => by obtain ⟨y, _, rfl⟩ := List.mem_map.1 hu; rfl) hmx)
  have c0 : w.cell? ⟨g, 0, none⟩ = some (.slice (some ⟨r.aA, 0, none⟩) (r.N + 1) r.ac) := h.blk.cell 0
  have c4 : w.cell? ⟨g, 4, none⟩ = some (.int .i64 r.at_) := h.blk.cell 4
  have c5 : w.cell? ⟨g, 5, none⟩ = some (.slice r.mA r.met.length r.mc) := h.blk.cell 5
  have ca : w.cell? ⟨r.aA, 0, none⟩ = some (.int .i64 (((cyc m.row).getD m.row.length 0 : Nat) : Int)) := by
    have h1 := HAC.out w (Below.refl _ _) 0 (Nat.zero_le _)
    have h2 := (cyc_lk hlk (Nat.le_refl _)).2
    rw [cyc_last] at h2
    rwa [h2] at h1
  have hz : (0 : Int) < (r.N : Int) + 1 := by omega
  have HS0 := Lib.hid (show ∃ k, k ≤ m.row.length ∧ (cyc m.row).getD m.row.length 0 = (cyc m.row).getD k 0 ∧ ∀ j (hj : j < m.row.length), k ≤ j → isSet bs m.row[j] = true from ⟨m.row.length, Nat.le_refl _, rfl, fun j hj h => by omega⟩)
  have HS1 := Lib.hid (show r.mA ≠ none → (r.met == bs) = true → ∃ x : Nat, r.at_ = x ∧ ∃ k, k ≤ m.row.length ∧ x = (cyc m.row).getD k 0 ∧ ∀ j (hj : j < m.row.length), k ≤ j → isSet bs m.row[j] = true from fun h1 h2 => by
    have h3 : r.met = bs := by simpa using h2
    obtain ⟨k, k1, k2, k3, k4⟩ := ans_spec m.row bs
    exact ⟨ansN m.row bs, by rw [hi.ans h1, h3], k, k1, k4, k2⟩)
  have he1 := fun (W : World) (A : Option Addr) (n c : Nat) => run_neq_slice_nil (P := Try.prog) W 31 4 A n c 0 0 Try.underlying31
  clear h hi hb ha hlk hr hn
  obtain ⟨x0, hx0⟩ : ∃ x0, (cyc m.row).getD m.row.length 0 = x0 := ⟨_, rfl⟩
  rw [hx0] at ca HS0
  clear hx0
  rcases hmA : r.mA with _ | adr
  case' none =>
    rw [hmA] at c5
    have HX := Lib.hid (show ∃ x : Nat, (x0 : Int) = x ∧ ∃ k, k ≤ m.row.length ∧ x = (cyc m.row).getD k 0 ∧ ∀ j (hj : j < m.row.length), k ≤ j → isSet bs m.row[j] = true from ⟨x0, rfl, HS0.out⟩)
    have HB0 := Lib.hid (Below.refl w.heap.size w)
    clear hmA HS0 HS1 HEQ
    go_enter Try.func16, Try.ntmps16
    go_wp2_with fail
  case' some =>
    rw [hmA] at c5 HEQ HS1
    rcases hms : (r.met == bs) with _ | _
    case' false =>
      rw [hms] at HEQ
      have HX := Lib.hid (show ∃ x : Nat, (x0 : Int) = x ∧ ∃ k, k ≤ m.row.length ∧ x = (cyc m.row).getD k 0 ∧ ∀ j (hj : j < m.row.length), k ≤ j → isSet bs m.row[j] = true from ⟨x0, rfl, HS0.out⟩)
    case' true =>
      rw [hms] at HEQ
      have HX := Lib.hid (HS1.out (by simp) hms)
    all_goals
      clear hmA hms HS0 HS1
      go_enter Try.func16, Try.ntmps16
      go_wp2_with fail
      refine HEQ.out.mono ?_
      rintro e w1 ⟨rfl, hb1⟩
      have HB0 := Lib.hid hb1
      have c4 : w1.cell? ⟨g, 4, none⟩ = some (.int .i64 r.at_) := (H.out.below hb1).blk.cell 4
      clear HEQ hb1
      go_wp2_with fail
  all_goals
    obtain ⟨x, hx, hxk⟩ := HX.out
    have HXK := Lib.hid hxk
    rw [hx]
    clear HX hxk hx c0 c4 c5 ca
    go_loopw [6] (fun v wr => ∃ k : Nat, k ≤ m.row.length ∧ v = .int .i64 (((cyc m.row).getD k 0 : Nat) : Int) ∧ (∀ j (hj : j < m.row.length), k ≤ j → isSet bs m.row[j] = true) ∧ Below w.heap.size w wr) (fun v _ => (cyc m.row).idxOf (intOf v).toNat)
    case atStart =>
      obtain ⟨k, k1, k2, k3⟩ := HXK.out
      exact ⟨k, k1, by rw [k2], k3, HB0.out⟩
    case round =>
      clear HXK HB0
      obtain ⟨k, hk, rfl, hs, hb⟩ := hrel
      have HS := Lib.hid hs
      have HB := Lib.hid hb
      clear hs hb
      have c0 : wr.cell? ⟨g, 0, none⟩ = some (.slice (some ⟨r.aA, 0, none⟩) (r.N + 1) r.ac) := (H.out.below HB.out).blk.cell 0
      have HEND := Lib.hid (fun (hans : ansN m.row bs = (cyc m.row).getD k 0) => (show ∀ (w2 : World) (A : Option Addr) (c2 : Nat), App.Own w2 wr.heap.size 4 A n c2 (bs.map Value.bool) → Below wr.heap.size wr w2 →
        NextR w base g m r bs (.returned (.tuple #[.int .i64 (((cyc m.row).getD k 0 : Nat) : Int), .bool (decide ((cyc m.row).getD k 0 ≠ 0))])) ((w2.setCell ⟨g, 4, none⟩ (.int .i64 (((cyc m.row).getD k 0 : Nat) : Int))).setCell ⟨g, 5, none⟩ (.slice A n c2)) ∧ w2.cell? ⟨g, 4, none⟩ = some (.int .i64 r.at_) ∧ w2.cell? ⟨g, 5, none⟩ = some (.slice r.mA r.met.length r.mc) ∧ w2.frozen? ⟨g, 4, none⟩ = false ∧ w2.frozen? ⟨g, 5, none⟩ = false from fun w2 A c2 hO hb2 => by
        have hq := (H.out.below HB.out).below hb2
        have hnn : n = bs.length := HN.out
        refine ⟨⟨by rw [hans], { { r with at_ := (((cyc m.row).getD k 0 : Nat) : Int) } with mA := A, mc := c2, met := bs }, ?_, ⟨HI.out.w, HI.out.N, HI.out.st, HI.out.moved, HI.out.lk, fun _ => by show (((cyc m.row).getD k 0 : Nat) : Int) = _; rw [hans]⟩, ⟨rfl, rfl, rfl, rfl⟩, ?_⟩, hq.blk.cell 4, hq.blk.cell 5, hq.blk.frozen 4, hq.blk.frozen 5⟩
        · rw [hnn] at hO ⊢
          refine (hq.setAt _).setMet A c2 bs ?_
          refine own_far (hO.low (Nat.le_trans (Nat.le_trans (Nat.le_of_lt (Nat.lt_of_le_of_lt H.out.bg H.out.blk.lt)) HB.out.size) (Nat.le_refl _))) ?_ _
          intro e
          have := (own_lt hO e).1
          have := (H.out.below HB.out).blk.lt
          show False
          simp only at *
          omega
        · exact (((Mod.none_ HB.out (fun i => i = g)).then_ (Mod.none_ hb2 _)).setCell (p := ⟨g, 4, none⟩) (.inl rfl) _).setCell (p := ⟨g, 5, none⟩) (.inl rfl) _))
      have HIK := Lib.hid (HIX.out k hk)
      rcases k with _ | j
      · have hans : ansN m.row bs = (cyc m.row).getD 0 0 := ans_of 0 (Nat.zero_le _) (fun j hj _ => HS.out j hj (Nat.zero_le _)) (fun j _ e => by omega)
        have HE := Lib.hid (HEND.out hans)
        rw [cyc_zero] at HE ⊢
        clear hans HEND HIK
        go_wp2_with fail
        refine (HCL.out wr HB.out).mono ?_
        rintro e w2 ⟨⟨A, c2, rfl, hO⟩, hb2⟩
        obtain ⟨hF, d4, d5, f4, f5⟩ := HE.out w2 A c2 hO hb2
        have HF := Lib.hid hF
        clear hF hO hb2
        go_wp2
        go_ret2
        exact HF.out
      · have hjl : j < m.row.length := by omega
        have hp := HPOS.out j hjl
        have hv := HLE.out (j + 1)
        have hlk2 := (cyc_lk HLK.out (i := j) (by omega)).2
        have HJ := Lib.hid (HIX.out j (by omega))
        have HNS := Lib.hid (show isSet bs m.row[j] = true → ∀ i (hi : i < m.row.length), j ≤ i → isSet bs m.row[i] = true from fun hh i hi hji => by
          by_cases e : i = j
          · subst e; exact hh
          · exact HS.out i hi (by omega))
        have HAN := Lib.hid (show isSet bs m.row[j] = false → ansN m.row bs = (cyc m.row).getD (j + 1) 0 from fun hh => ans_of (j + 1) hk (fun i hi h => HS.out i hi h) (fun i hi e => by
          obtain rfl : j = i := by omega
          exact hh))
        have HDT := Lib.hid (show isSet bs m.row[j] = (decide (m.row[j] ≤ n) && bs.getD (m.row[j] - 1) false) from by unfold isSet; rw [HN.out])
        rw [cyc_mid hjl] at hv hlk2 HIK HEND HAN ⊢
        have ha := HAC.out wr HB.out m.row[j] (by rw [HNN.out]; exact hv)
        rw [hlk2] at ha
        clear hlk2
        generalize m.row[j]'hjl = v at *
        rw [show decide (v ≠ 0) = true from decide_eq_true (by omega)] at HEND
        have hv0 : ((v : Int) != 0) = true := by simp; omega
        have hv1 : (v : Int) < (r.N : Int) + 1 := by rw [HNN.out]; omega
        have hv2 : v < r.N + 1 := by omega
        have hv3 : (0 : Int) ≤ (v : Int) := Int.natCast_nonneg _
        obtain ⟨u, rfl⟩ : ∃ u : Nat, v = u + 1 := ⟨v - 1, by omega⟩
        have e1 : IntKind.i64.wrap (((u + 1 : Nat) : Int) - 1) = (u : Int) := by rw [IntWalk.i64_in _ (by omega)]; omega
        have e2 : IntKind.i64.wrap ((u : Int) + 1 - 1) = (u : Int) := by rw [IntWalk.i64_in _ (by omega)]; omega
        by_cases hun : u + 1 ≤ n
        · have hul : u < bs.length := by rw [← HN.out]; omega
          obtain ⟨bt, ot, eB, _, hct⟩ := RdV.at_ (RdV.below HR.out HB.out) (enc_at (enc := Value.bool) hul)
          have HD2 := Lib.hid (show isSet bs (u + 1) = bs[u] from by
            rw [HDT.out, decide_eq_true hun, Bool.true_and, Nat.add_sub_cancel, List.getD_eq_getElem?_getD, List.getElem?_eq_getElem hul]; rfl)
          have hu3 : ((u + 1 : Nat) : Int) ≤ (n : Int) := by omega
          have hu4 : (u : Int) < (n : Int) := by omega
          have hu5 : (0 : Int) ≤ (u : Int) := Int.natCast_nonneg _
          generalize bs[u]'hul = z at *
          rcases z with _ | _
          · have HE := Lib.hid (HEND.out (HAN.out HD2.out))
            subst eB
            clear HEND HAN HNS HD2 HDT HIK HJ hul
            go_wp2_with fail
            refine (HCL.out wr HB.out).mono ?_
            rintro e w2 ⟨⟨A, c2, rfl, hO⟩, hb2⟩
            obtain ⟨hF, d4, d5, f4, f5⟩ := HE.out w2 A c2 hO hb2
            have HF := Lib.hid hF
            clear hF hO hb2
            go_wp2
            go_ret2
            exact HF.out
          · have HE := Lib.hid (HNS.out HD2.out)
            subst eB
            clear HEND HAN HNS HD2 HDT hul
            go_wp2_with fail
            go_roundw
            case rel => exact ⟨j, by omega, rfl, HE.out, HB.out⟩
            case measure => 
              have h1 := HIK.out
              have h2 := HJ.out
              simp only [intOf, Int.toNat_natCast]
              rw [List.getD_eq_getElem?_getD] at h2
              rw [h1, h2]; omega
        · have HE := Lib.hid (HEND.out (HAN.out (by rw [HDT.out, decide_eq_false hun, Bool.false_and])))
          have hu3 : ¬ ((u + 1 : Nat) : Int) ≤ (n : Int) := by omega
          clear HEND HAN HNS HDT HIK HJ
          go_wp2_with fail
          refine (HCL.out wr HB.out).mono ?_
          rintro e w2 ⟨⟨A, c2, rfl, hO⟩, hb2⟩
          obtain ⟨hF, d4, d5, f4, f5⟩ := HE.out w2 A c2 hO hb2
          have HF := Lib.hid hF
          clear hF hO hb2
          go_wp2
          go_ret2
          exact HF.out
end Go.Proofs.Ytgldhnjbodmbbaa.Qu
