/- Queue: Bump: what it answers and leaves. Conditions: the memory, at most a million numbers, at most a million moves. -/
import Derived.Test.YtgldhnjbodmbbaaQi
import Derived.Test.YtgldhnjbodmbbaaQs
import Derived.StillTailTactics
namespace Go.Proofs.Ytgldhnjbodmbbaa.Qu
open Go.RowKit Go.Proofs.Ytgldhnjbodmbbaa.Mem Go.Proofs.Ytgldhnjbodmbbaa.Sl Go.Shelf
open Go.Proofs.Ytgldhnjbodmbbaa.FnL (enc_at below_then)
set_option linter.unusedVariables false

def SA (r r' : QR) : Prop := r'.aA = r.aA ∧ r'.bA = r.bA ∧ r'.sA = r.sA ∧ (r'.met = [] ∨ r'.met = r.met)
/-- What Bump of a queue answers and leaves. -/
def BumpR (w : World) (base g : Nat) (m : QM) (r : QR) (l : List Int) (e : Ending) (w' : World) : Prop :=
  e = .returned (.int .i64 (bumpE m l)) ∧ ∃ r', QuR w' base g r' ∧ Inv (bumpM m l) r' ∧ SA r r' ∧ Mod (mine g r) w w'
theorem bump_nil (B : Option Addr) (n cb : Nat) (w : World) : Calls Try.prog 12 #[.pointer none, .slice B n cb] w fun e w' => e = .returned (.int .i64 1) ∧ w = w' := by
  go_enter Try.func12, Try.ntmps12
  go_wp2
  go_ret
  exact ⟨rfl, rfl⟩
/-- The sorted and compacted row is what is moved. -/
theorem sorted_is {N : Nat} {row : List Nat} {f : Int → Int} (hf : ∀ i (h : i < row.length), f (row[i] : Nat) = i) {l : List Int} (hl : ∀ x, x ∈ l → ∃ v, v ∈ row ∧ x = (v : Nat)) {lv : List (VN N)} (he : lv.map Subtype.val = l) : Lib.compact ((srtV f lv).map Subtype.val) = rowI (mvL row l) := by
  unfold Lib.compact
  refine moved_eq hf hl ?_ ?_
  · rw [List.pairwise_map]; exact srtV_le lv
  · intro x
    rw [← he, List.mem_map, List.mem_map]
    constructor
    · rintro ⟨y, hy, rfl⟩; exact ⟨y, (srtV_mem lv y).1 hy, rfl⟩
    · rintro ⟨y, hy, rfl⟩; exact ⟨y, (srtV_mem lv y).2 hy, rfl⟩
set_option maxRecDepth 100000 in
set_option maxHeartbeats 8000000 in
theorem bump_any {w : World} {base g : Nat} {m : QM} {r : QR} (h : QuR w base g r) (hi : Inv m r) (hmv : m.moved ≤ 999999) (B : Option Addr) (n cb : Nat) (l : List Int) (hn : n = l.length) (hr : RdV w B (LZ l)) (hl : ∀ x, x ∈ l → inI x) (hn2 : n ≤ 1000000) :
    Calls Try.prog 12 #[.pointer (some ⟨g, 0, none⟩), .slice B n cb] w fun e w' => BumpR w base g m r l e w' := by
  have H := Lib.hid h
  have HI := Lib.hid hi
  have HR := Lib.hid hr
  have HN := Lib.hid hn
  have HL := Lib.hid hl
  have HNN := Lib.hid hi.N
  have HMV := Lib.hid hmv
  have hrN : r.N ≤ 1048576 := by rw [hi.N]; exact hi.w.N
  have hm0 : 0 ≤ r.moved := by rw [hi.moved]; exact hi.w.m0
  have hm1 : r.moved ≤ 999999 := by rw [hi.moved]; exact hmv
  have c2 : w.cell? ⟨g, 2, none⟩ = some (.slice (some ⟨r.sA, 0, none⟩) (r.N + 1) r.sc) := h.blk.cell 2
  have HBAD := Lib.hid (fun (hb : badI m.N l = true) (w' : World) (hbl : Below w.heap.size w w') => (show BumpR w base g m r l (.returned (.int .i64 2)) w' from ⟨by unfold bumpE; rw [if_pos hb], r, h.below hbl, by unfold bumpM; rw [if_pos hb]; exact hi, ⟨rfl, rfl, rfl, .inr rfl⟩, Mod.none_ hbl _⟩))
  have HEMP := Lib.hid (fun (hb : badI m.N l = false) (he : l = []) (w' : World) (hbl : Below w.heap.size w w') => (show BumpR w base g m r l (.returned (.int .i64 0)) w' from ⟨by unfold bumpE; rw [if_neg (by rw [hb]; decide)], r, h.below hbl, by unfold bumpM; rw [if_neg (by rw [hb]; decide), if_pos he]; exact hi, ⟨rfl, rfl, rfl, .inr rfl⟩, Mod.none_ hbl _⟩))
  clear h hi hr hl hn
  have hmm := @run_makeMap Try.prog
  go_enter Try.func12, Try.ntmps12
  go_wp2_with fail
  go_loopw [17] (fun i wr => ∃ k : Nat, k ≤ n ∧ i = .int .i64 k ∧ badI m.N (l.take k) = false ∧ w = wr) (fun i _ => n - (intOf i).toNat)
  case atStart => exact ⟨0, Nat.zero_le _, rfl, rfl, rfl⟩
  case round =>
    obtain ⟨k, hk, rfl, hf, rfl⟩ := hrel
    have HF := Lib.hid hf
    clear hf
    by_cases hlt : k < n
    · have hkl : k < l.length := by rw [← HN.out]; exact hlt
      obtain ⟨bt, ot, eB, _, hct⟩ := RdV.at_ HR.out (enc_at (enc := Value.int .i64) hkl)
      have HB1 := Lib.hid (fun (hx : l[k] < 1 ∨ (m.N : Int) < l[k]) => HBAD.out (List.any_eq_true.2 ⟨_, List.getElem_mem hkl, by simpa using hx⟩) w (Below.refl _ _))
      have HG := Lib.hid (fun (hx : ¬ l[k] < 1 ∧ ¬ (m.N : Int) < l[k]) => (show badI m.N (l.take (k + 1)) = false from by
        unfold badI at *
        rw [List.take_succ_eq_append_getElem hkl, List.any_append, HF.out]
        simp [hx.1, hx.2]))
      generalize l[k]'hkl = x at *
      rw [← HNN.out] at HB1
      have HG2 := Lib.hid (fun (p1 : ¬ x < 1) (p2 : ¬ (r.N : Int) < x) => HG.out ⟨p1, by rw [← HNN.out]; exact p2⟩)
      subst eB
      clear hkl
      by_cases p1 : x < 1
      · have HD := Lib.hid (HB1.out (.inl p1))
        clear HB1 HG HG2
        go_wp2
        go_ret
        exact HD.out
      · by_cases p2 : (r.N : Int) < x
        · have HD := Lib.hid (HB1.out (.inr p2))
          have p3 : (r.N : Int) + 1 ≤ x := by omega
          clear HB1 HG HG2
          go_wp2
          go_ret
          exact HD.out
        · have HE := Lib.hid (HG2.out p1 p2)
          have p3 : ¬ (r.N : Int) + 1 ≤ x := by omega
          clear HB1 HG HG2
          go_wp2
          go_roundw
          case rel => exact ⟨k + 1, by omega, by go_num, HE.out, trivial⟩
          case measure => simp [intOf]; omega
    · have HNB := Lib.hid (show badI m.N l = false by have := HF.out; rwa [List.take_of_length_le (by rw [← HN.out]; omega)] at this)
      by_cases hz : n = 0
      · have HD := Lib.hid (HEMP.out HNB.out (List.eq_nil_of_length_eq_zero (by rw [← HN.out]; exact hz)) w (Below.refl _ _))
        have hz1 : ((n : Int) == 0) = true := by simp [hz]
        clear hz
        go_wp2
        go_ret
        exact HD.out
      · have hz1 : ((n : Int) == 0) = false := by simp; omega
        clear HBAD HEMP HF
        have HVL := Lib.hid (show ∀ x, x ∈ l → ∃ v, v ∈ m.row ∧ x = ((v : Nat) : Int) from fun x hx => by
          have hb : (decide (x < 1) || decide ((m.N : Int) < x)) = false := by
            rcases hq : (decide (x < 1) || decide ((m.N : Int) < x)) with _ | _
            · rfl
            · exact absurd (List.any_eq_true.2 ⟨x, hx, hq⟩) (by have := HNB.out; unfold badI at this; rw [this]; decide)
          simp only [Bool.or_eq_false_iff, decide_eq_false_iff_not] at hb
          exact ⟨x.toNat, (HI.out.w.mem _).2 (by omega), by omega⟩)
        obtain ⟨bh, ah, hbh, hah, hlk⟩ := HI.out.lk
        have HLK := Lib.hid hlk
        have HLE := Lib.hid (fun i => cyc_le (fun v hv => (HI.out.w.mem v).1 hv) i)
        have HCB := Lib.hid (fun W (hbb : Below w.heap.size w W) (v : Nat) (hv : v ≤ r.N) => (show W.cell? ⟨r.bA, v, none⟩ = some (.int .i64 (bh v : Int)) from by
          have := (H.out.below hbb).b.cell (arr_at hv)
          rwa [hbh] at this))
        have HPOS := Lib.hid (fun i (hil : i < m.row.length) => ((HI.out.w.mem _).1 (List.getElem_mem hil)))
        have HIX := Lib.hid (fun (k : Nat) (hk : k ≤ m.row.length) => idx_cyc HI.out.w.nd HI.out.w.zero hk)
        have HND := Lib.hid HI.out.w.nd
        have hlen : m.row.length ≤ 1048576 := by rw [HI.out.w.len]; exact HI.out.w.N
        obtain ⟨W1, hW1⟩ : ∃ W1, W1 = (w.alloc (.map #[] 0)).alloc (.cells #[.map (some w.heap.size)] 54) := ⟨_, rfl⟩
        have HB1 := Lib.hid (show Below w.heap.size w W1 from hW1 ▸ ((Below.refl _ _).alloc (Nat.le_refl _) _).alloc (by simp) _)
        have HM1 := Lib.hid (show MapI W1 w.heap.size 0 (fun _ => 0) from hW1 ▸ (MapI.made w).below ((Below.refl _ _).alloc (Nat.le_refl _) _))
        have HX1 := Lib.hid (show W1.cell? ⟨w.heap.size + 1, 0, none⟩ = some (.map (some w.heap.size)) from by
          have := (Blk.new (w.alloc (.map #[] 0)) 54 #[.map (some w.heap.size)]).cell 0
          rw [show (w.alloc (.map #[] 0)).heap.size = w.heap.size + 1 from by simp] at this
          rw [hW1]
          exact this)
        have HW1 := Lib.hid hW1.symm
        have b1 : W1.cell? ⟨g, 1, none⟩ = some (.slice (some ⟨r.bA, 0, none⟩) (r.N + 1) r.bc) := (H.out.below HB1.out).blk.cell 1
        have b0 : W1.cell? ⟨r.bA, 0, none⟩ = some (.int .i64 (((cyc m.row).getD 1 0 : Nat) : Int)) := by
          have h1 := HCB.out W1 HB1.out 0 (Nat.zero_le _)
          have h2 := (cyc_lk hlk (Nat.zero_le _)).1
          rw [cyc_zero] at h2
          rwa [h2] at h1
        have hzN : (0 : Int) < (r.N : Int) + 1 := by omega
        clear hbh hah hlk hW1
        go_upto_region 12 with (fail)
        rw [HW1.out]
        go_wp2_with fail
        clear b1 b0
        go_loopw [8, 9] (fun v i wr => ∃ (k : Nat) (f : Int → Int), k ≤ m.row.length ∧ v = .int .i64 (((cyc m.row).getD (k + 1) 0 : Nat) : Int) ∧ i = .int .i64 k ∧ MapI wr w.heap.size k f ∧ (∀ j (hj : j < m.row.length), j < k → f ((m.row[j] : Nat) : Int) = j) ∧ wr.cell? ⟨w.heap.size + 1, 0, none⟩ = some (.map (some w.heap.size)) ∧ Below w.heap.size w wr ∧ w.heap.size + 1 < wr.heap.size) (fun _ i _ => m.row.length - (intOf i).toNat)
        case atStart => exact ⟨0, _, Nat.zero_le _, rfl, rfl, HM1.out, fun j _ hj => absurd hj (Nat.not_lt_zero _), HX1.out, HB1.out, World.block_lt_of_cell? _ _ HX1.out⟩
        case round =>
          clear HM1 HX1 HB1 HW1
          obtain ⟨k, f, hk, rfl, rfl, hm, hfj, hx, hb, hsz⟩ := hrel
          have HM := Lib.hid hm
          have HFJ := Lib.hid hfj
          have HX := Lib.hid hx
          have HB := Lib.hid hb
          have HSZ := Lib.hid hsz
          clear hm hfj hx hb hsz
          by_cases hlt2 : k < m.row.length
          · have hp := HPOS.out k hlt2
            have hv := HLE.out (k + 1)
            rw [cyc_mid hlt2] at hv ⊢
            have hbn := (cyc_lk HLK.out (i := k + 1) (by omega)).1
            rw [cyc_mid hlt2] at hbn
            have HC0 := Lib.hid (fun W (hb : Below w.heap.size w W) => (show W.cell? ⟨r.bA, m.row[k], none⟩ = some (.int .i64 (((cyc m.row).getD (k + 1 + 1) 0 : Nat) : Int)) from by
              have := HCB.out W hb m.row[k] (by rw [HNN.out]; exact hv)
              rwa [hbn] at this))
            have HFN := Lib.hid (show ∀ j (hj : j < m.row.length), j < k + 1 → (fun u : Int => if u = ((m.row[k] : Nat) : Int) then (k : Int) else f u) ((m.row[j] : Nat) : Int) = j from fun j hj hjk => by
              dsimp only
              by_cases e : j = k
              · subst e; rw [if_pos rfl]
              · rw [if_neg (fun h => e ((List.getElem_inj HND.out).1 (by omega)))]
                exact HFJ.out j hj (by omega))
            clear hbn
            generalize m.row[k]'hlt2 = v at *
            have hx := HX.out
            have hv0 : ((v : Int) != 0) = true := by simp; omega
            have hv1 : (v : Int) < (r.N : Int) + 1 := by rw [HNN.out]; omega
            have hv2 : v < r.N + 1 := by omega
            have hv3 : (0 : Int) ≤ (v : Int) := Int.natCast_nonneg _
            go_upto_region 14 with (at_mapUpdate; refine wpMapPut rfl _ _ _ rfl HM.out rfl (v : Int) (k : Int) rfl rfl ⟨by omega, by omega⟩ ⟨by omega, by omega⟩ (by unfold maxLen; omega) ?_; intro w3 hM3 hmd; have HM3 := Lib.hid hM3; have HMD := Lib.hid hmd; clear hM3 hmd)
            have HB3 := Lib.hid (Mem.Below.then_mod HB.out HMD.out (fun i hi e => by omega) (Nat.le_refl _))
            have HX3 := Lib.hid ((World.cell?_of_block (a := ⟨w.heap.size + 1, 0, none⟩) (HMD.out.block (w.heap.size + 1) HSZ.out (show ¬ (w.heap.size + 1 = w.heap.size) from Nat.succ_ne_self _))).trans HX.out)
            have HS3 := Lib.hid (Nat.lt_of_lt_of_le HSZ.out HMD.out.size)
            have b1 : w3.cell? ⟨g, 1, none⟩ = some (.slice (some ⟨r.bA, 0, none⟩) (r.N + 1) r.bc) := (H.out.below HB3.out).blk.cell 1
            have b0 := HC0.out w3 HB3.out
            clear hx
            go_wp2
            go_roundw
            case rel => exact ⟨k + 1, _, by omega, rfl, by go_num, HM3.out, HFN.out, HX3.out, HB3.out, HS3.out⟩
            case measure => simp [intOf]; omega
          · obtain rfl : k = m.row.length := by omega
            have hz0 : (cyc m.row).getD (m.row.length + 1) 0 = 0 := cyc_last _
            rw [hz0]
            clear hz0
            have HFA := Lib.hid (show ∀ i (hi : i < m.row.length), f ((m.row[i] : Nat) : Int) = i from fun i hi => HFJ.out i hi hi)
            obtain ⟨lv, hlv⟩ : ∃ lv : List (VN m.N), lv.map Subtype.val = l := by
              have hval : ∀ x, x ∈ l → 1 ≤ x ∧ x ≤ (m.N : Int) := fun x hx => by
                obtain ⟨v, hv, rfl⟩ := HVL.out x hx
                have := (HI.out.w.mem v).1 hv; omega
              exact ⟨l.attach.map fun x => ⟨x.1, hval x.1 x.2⟩, by rw [List.map_map]; exact List.attach_map_subtype_val l⟩
            have HLV := Lib.hid hlv
            clear hlv
            have HRow := Lib.hid (fun (x : VN m.N) => (show ∃ i, ∃ hi : i < m.row.length, x.1 = ((m.row[i] : Nat) : Int) ∧ f x.1 = i from by
              have hx := x.2
              have hm2 : x.1.toNat ∈ m.row := (HI.out.w.mem _).2 (by omega)
              obtain ⟨i, hi, e⟩ := List.getElem_of_mem hm2
              exact ⟨i, hi, by rw [e]; omega, by rw [← HFA.out i hi, e]; congr 1; omega⟩))
            have HCLO := Lib.hid (clone_int (w := wr) B n cb (LZ l) (by rw [HN.out]; simp [LZ]) (HR.out.below HB.out) one_LZ (by omega))
            have hx := HX.out
            go_wp2_with fail
            refine HCLO.out.mono ?_
            rintro e w3 ⟨⟨A2, a2, rfl, hO⟩, hb3⟩
            obtain ⟨gr, e2, hbg, hrow⟩ := hO.row (by omega)
            subst e2
            have HO3 := Lib.hid hO
            have HB3 := Lib.hid (below_then HB.out hb3 HB.out.size)
            have HG := Lib.hid hbg
            have HX3 := Lib.hid ((hb3.cell (p := ⟨w.heap.size + 1, 0, none⟩) HSZ.out).trans HX.out)
            have HM3 := Lib.hid (HM.out.below hb3)
            have HGR := Lib.hid (show w.heap.size + 1 < gr from Nat.lt_of_lt_of_le HSZ.out hbg)
            clear hO hb3 hbg hrow HCLO hx
            haveI : Inhabited (VN m.N) := by
              rcases lv with _ | ⟨y, _⟩
              · have := HLV.out; simp at this; exact absurd (HN.out.trans (by first | (rw [this]; rfl) | (rw [← this]; rfl))) hz
              · exact ⟨y⟩
            have HSRT := Lib.hid (sort_any (w := w3) (base := wr.heap.size) (g := gr) (n := n) (c := a2) (bx := w.heap.size + 1) (b := w.heap.size) (l := lv) (by rw [← LZ_val, HLV.out]; exact HO3.out) hn2 HX3.out HM3.out (fun x => by
              obtain ⟨i, hi, _, e⟩ := HRow.out x
              rw [e]; omega) (fun x y e => by
              obtain ⟨i, hi, e1, e2⟩ := HRow.out x
              obtain ⟨j, hj, e3, e4⟩ := HRow.out y
              rw [e2, e4] at e
              obtain rfl : i = j := by omega
              exact Subtype.ext (e1.trans e3.symm)) (by have := HGR.out; omega) (by have := HGR.out; omega) (by have := HI.out.w.N; exact this))
            have HCS := Lib.hid (sorted_is HFA.out HVL.out HLV.out)
            clear HM HX HM3 HX3 HO3 HRow
            go_wp2_with fail
            refine HSRT.out.mono ?_
            rintro e w4 ⟨rfl, hO4, hm4⟩
            have HB4 := Lib.hid (Mem.Below.then_mod HB3.out hm4 (fun i hi e => by have := HGR.out; omega) (Nat.le_refl _))
            have HQ4 := Lib.hid (H.out.below HB4.out)
            have HO4 := Lib.hid (show App.Own w4 wr.heap.size 3 (some ⟨gr, 0, none⟩) n a2 (LZ ((srtV f lv).map Subtype.val)) from by rw [LZ_val]; exact hO4)
            have d3 : w4.cell? ⟨g, 3, none⟩ = some (.int .i64 r.moved) := HQ4.out.blk.cell 3
            have f3 : w4.frozen? ⟨g, 3, none⟩ = false := HQ4.out.blk.frozen 3
            clear hO4 hm4 HSRT
            have HQ5 := Lib.hid (HQ4.out.setMoved (r.moved + 1))
            have HGG := Lib.hid (show gr ≠ g from fun e => by have := HGR.out; have := H.out.blk.lt; omega)
            have HO5 := Lib.hid (own_far (p := ⟨g, 3, none⟩) HO4.out (fun e => by injection e with e; injection e with e; exact HGG.out e) (.int .i64 (r.moved + 1)))
            have HM5 := Lib.hid (show Mod (mine g r) w (w4.setCell ⟨g, 3, none⟩ (.int .i64 (r.moved + 1))) from ((Mod.none_ HB4.out (mine g r)).setCell (p := ⟨g, 3, none⟩) (.inl (.inl rfl)) _))
            obtain ⟨W5, hW5⟩ : ∃ W5, W5 = w4.setCell ⟨g, 3, none⟩ (.int .i64 (r.moved + 1)) := ⟨_, rfl⟩
            have HW5 := Lib.hid hW5.symm
            rw [← hW5] at HQ5 HO5 HM5
            have HCM := Lib.hid (compact_any (w := W5) HO5.out hn2)
            rw [HCS.out, rowI_len] at HCM
            clear hW5
            go_upto_region 19 with (fail)
            rw [HW5.out]
            clear d3 f3
            go_wp2_with fail
            refine HCM.out.mono ?_
            rintro e w6 ⟨rfl, hO6, hm6⟩
            have HO6 := Lib.hid (hO6.low (Nat.le_of_lt (Nat.lt_of_le_of_lt (Nat.le_refl _) (Nat.lt_of_lt_of_le (Nat.lt_succ_self _) (Nat.le_of_lt HSZ.out)))))
            have HM6 := Lib.hid (HM5.out.trans hm6 (fun i hi e => by have := HGR.out; omega))
            have HQ6 := Lib.hid (HQ5.out.mod hm6 (fun i hi e => by
              have h1 : mine g r i := hi
              have := (H.out.minB h1).2
              have := HGR.out
              omega) (fun i hi e => by
              have h1 : r.mA = some ⟨i, 0, none⟩ := hi
              have := (own_lt H.out.met h1).2
              have := HGR.out
              omega))
            clear hO6 hm6 HQ5 HO5 HM5 HCM HW5 HCS HO4 HQ4
            have HVS := Lib.hid (show ∀ v, v ∈ mvL m.row l → v ∈ m.row from fun v hv => (mvL_mem.1 hv).1)
            have HVN := Lib.hid (show (mvL m.row l).Nodup from mvL_nodup HI.out.w.nd)
            have HVB := Lib.hid (show (mvL m.row l).length ≤ m.row.length from List.length_filter_le _ _)
            have HBM := Lib.hid (show bumpM m l = mvM m (mvL m.row l) ∧ bumpE m l = 0 from ⟨by unfold bumpM; rw [if_neg (by rw [HNB.out]; decide), if_neg (fun e => hz (by rw [HN.out, e]; rfl))], by unfold bumpE; rw [if_neg (by rw [HNB.out]; decide)]⟩)
            have HI0 := Lib.hid (show MvI m r (mvL m.row l) 0 { r with moved := r.moved + 1 } from ⟨rfl, ⟨rfl, rfl, rfl⟩, by show r.moved + 1 = _; rw [HI.out.moved], by rw [stK_zero]; exact HI.out.st, by
              obtain ⟨bh', ah', k1, k2, k3⟩ := HI.out.lk
              exact ⟨bh', ah', ⟨k1, k2⟩, by rw [List.take_zero, mvRow_nil]; exact k3⟩⟩)
            generalize hvs : mvL m.row l = vs at *
            have HVSE := Lib.hid hvs
            clear hvs
            have hvl : vs.length ≤ 1048576 := Nat.le_trans HVB.out hlen
            go_wp2_with fail
            go_loopw [72] (fun i wr => ∃ (k : Nat) (r' : QR), k ≤ vs.length ∧ i = .int .i64 k ∧ QuR wr base g r' ∧ MvI m r vs k r' ∧ App.Own wr w.heap.size 3 (some ⟨gr, 0, none⟩) vs.length a2 (LZ (rowI vs)) ∧ Mod (mine g r) w wr) (fun i _ => vs.length - (intOf i).toNat)
            case atStart => exact ⟨0, _, Nat.zero_le _, rfl, HQ6.out, HI0.out, HO6.out, HM6.out⟩
            case round =>
              clear HQ6 HI0 HO6 HM6
              obtain ⟨k, r', hk, rfl, hq, hI, hO, hM⟩ := hrel
              have HQ := Lib.hid hq
              have HIK := Lib.hid hI
              have HO := Lib.hid hO
              have HM := Lib.hid hM
              clear hq hI hO hM
              by_cases hlt3 : k < vs.length
              · obtain ⟨a, b, tt, ha, hb, ht, hah, hbh, htt, hvN, hv1, hstep⟩ := HIK.out.step HI.out.w HNN.out HVS.out HVN.out hlt3
                have HST := Lib.hid hstep
                have hcg : wr.cell? ⟨gr, k, none⟩ = some (.int .i64 ((vs[k] : Nat) : Int)) := by
                  obtain ⟨g', e1, _, hrow⟩ := HO.out.row (by omega)
                  cases e1
                  exact hrow.cell (by unfold LZ rowI; rw [List.getElem?_map, List.getElem?_map, List.getElem?_eq_getElem hlt3]; rfl)
                clear hstep
                generalize vs[k]'hlt3 = v at *
                have hN' : r'.N = r.N := HIK.out.N
                have hA' := HIK.out.sa
                have d0 : wr.cell? ⟨g, 0, none⟩ = some (.slice (some ⟨r'.aA, 0, none⟩) (r'.N + 1) r'.ac) := HQ.out.blk.cell 0
                have d1 : wr.cell? ⟨g, 1, none⟩ = some (.slice (some ⟨r'.bA, 0, none⟩) (r'.N + 1) r'.bc) := HQ.out.blk.cell 1
                have da : wr.cell? ⟨r'.aA, v, none⟩ = some (.int .i64 (a : Int)) := by rw [← hah]; exact HQ.out.a.cell (arr_at (by omega))
                have db : wr.cell? ⟨r'.bA, v, none⟩ = some (.int .i64 (b : Int)) := by rw [← hbh]; exact HQ.out.b.cell (arr_at (by omega))
                have hv2 : (v : Int) < (r'.N : Int) + 1 := by omega
                have hv3 : (0 : Int) ≤ (v : Int) := Int.natCast_nonneg _
                have hv4 : v < r'.N + 1 := by omega
                have HL1 := Lib.hid (link_any (w := wr.drew) (HQ.out.drewN 1) a b (by omega) (by omega) (by omega))
                have HAH := Lib.hid (show mine g r = mine g r' from by
                  obtain ⟨s1, s2, s3⟩ := hA'
                  unfold mine; rw [s1, s2, s3])
                have HNO := Lib.hid (show ∀ i, (some ⟨gr, 0, none⟩ : Option Addr) = some ⟨i, 0, none⟩ → ¬ mine g r' i from fun i e hs => by
                  injection e with e
                  injection e with e
                  rw [← HAH.out] at hs
                  have := (H.out.minB hs).2
                  have := HGR.out
                  omega)
                clear hA'
                have hN2 : r'.N ≤ 1048576 := by omega
                have ht2 : tt ≤ r'.N := by omega
                have HN' := Lib.hid hN'
                clear hN'
                go_upto_region 22 with (fail)
                refine wp_region_still_tail 15 (by kernel_rfl) (by kernel_rfl) ?_
                change wpStill _ _ wr.drew _ _ _
                simp only [List.take_succ_cons, List.take_zero, List.drop_succ_cons, List.drop_zero]
                repeat still_step
                refine wpStill_nil ?_
                change wpList _ _ _ _ _ wr.drew
                go_wp2_with fail
                refine HL1.out.mono ?_
                rintro e w4 ⟨rfl, hq4, hm4⟩
                have HQ4 := Lib.hid hq4
                have HM4 := Lib.hid (show Mod (mine g r) w w4 from HM.out.drew.then_ (by rw [HAH.out]; exact hm4))
                have HO4 := Lib.hid ((HO.out.drewN 1).mod hm4 (fun i _ e hs => HNO.out i e hs))
                clear d0 d1 da db hcg hq4 hm4 HL1
                have d0 : w4.cell? ⟨g, 0, none⟩ = some (.slice (some ⟨r'.aA, 0, none⟩) (r'.N + 1) r'.ac) := HQ4.out.blk.cell 0
                have da : w4.cell? ⟨r'.aA, 0, none⟩ = some (.int .i64 (tt : Int)) := by rw [← htt]; exact HQ4.out.a.cell (arr_at (Nat.zero_le _))
                have hz3 : (0 : Int) < (r'.N : Int) + 1 := by omega
                have HL2 := Lib.hid (link_any HQ4.out tt v (by show tt ≤ r'.N; omega) (by show v ≤ r'.N; omega) (by show r'.N ≤ _; omega))
                go_wp2_with fail
                refine HL2.out.mono ?_
                rintro e w5 ⟨rfl, hq5, hm5⟩
                have HQ5 := Lib.hid hq5
                have HM5 := Lib.hid (show Mod (mine g r) w w5 from HM4.out.then_ (by rw [HAH.out]; exact hm5))
                have HO5 := Lib.hid (HO4.out.mod hm5 (fun i _ e hs => HNO.out i e hs))
                clear d0 da hq5 hm5 HL2
                have HL3 := Lib.hid (link_any HQ5.out v 0 (by show v ≤ r'.N; omega) (Nat.zero_le _) (by show r'.N ≤ _; omega))
                go_wp2_with fail
                refine HL3.out.mono ?_
                rintro e w6 ⟨rfl, hq6, hm6⟩
                have HQ6 := Lib.hid hq6
                have HM6 := Lib.hid (show Mod (mine g r) w w6 from HM5.out.then_ (by rw [HAH.out]; exact hm6))
                have HO6 := Lib.hid (HO5.out.mod hm6 (fun i _ e hs => HNO.out i e hs))
                clear hq6 hm6 HL3
                have HMO := Lib.hid HIK.out.mv
                have s2 : w6.cell? ⟨g, 2, none⟩ = some (.slice (some ⟨r'.sA, 0, none⟩) (r'.N + 1) r'.sc) := HQ6.out.blk.cell 2
                have s3 : w6.cell? ⟨g, 3, none⟩ = some (.int .i64 (m.moved + 1)) := by rw [← HMO.out]; exact HQ6.out.blk.cell 3
                have sv : w6.cell? ⟨r'.sA, v, none⟩ = some (.int .i64 (r'.st v)) := HQ6.out.s.cell (arr_at (by show v ≤ r'.N; omega))
                have sf : w6.frozen? ⟨r'.sA, v, none⟩ = false := HQ6.out.s.frozen _
                have HSI := Lib.hid (fun W (hW : W = w6.drew) => (show Calls Try.prog 23 #[.pointer (some ⟨g, 0, none⟩)] W fun e w' => e = .returned (.int .i64 (r'.N : Int)) ∧ W = w' from by
                  subst hW
                  have hsz := size_any (HQ6.out.drewN 1) (by show r'.N ≤ _; omega)
                  exact hsz))
                have e1 : IntKind.i64.wrap (r'.N : Int) = (r'.N : Int) := IntWalk.i64_in _ (by omega)
                have e2 : IntKind.i64.wrap ((r'.N : Int) + (m.moved + 1)) = (r'.N : Int) + (m.moved + 1) := IntWalk.i64_in _ (by have := HI.out.w.m0; omega)
                have HNX := Lib.hid (show QuR (w6.drew.setCell ⟨r'.sA, v, none⟩ (.int .i64 ((r'.N : Int) + (m.moved + 1)))) base g { lnk (lnk (lnk r' a b) tt v) v 0 with st := updI r'.st v ((r'.N : Int) + (m.moved + 1)) } ∧ Mod (mine g r) w (w6.drew.setCell ⟨r'.sA, v, none⟩ (.int .i64 ((r'.N : Int) + (m.moved + 1)))) from
                  ⟨(HQ6.out.drewN 1).setS (by show v ≤ r'.N; omega) _, HM6.out.drew.setCell (p := ⟨r'.sA, v, none⟩) (.inl (by rw [HAH.out]; exact .inr (.inr (.inr rfl)))) _⟩)
                have HO7 := Lib.hid (own_far (w := w6.drew) (p := ⟨r'.sA, v, none⟩) (HO6.out.drewN 1) (fun e => HNO.out _ e (.inr (.inr (.inr rfl)))) (.int .i64 ((r'.N : Int) + (m.moved + 1))))
                have HIN := Lib.hid (HST.out { lnk (lnk (lnk r' a b) tt v) v 0 with st := updI r'.st v ((r'.N : Int) + (m.moved + 1)) } rfl rfl rfl rfl rfl rfl rfl (by show updI r'.st v ((r'.N : Int) + (m.moved + 1)) = _; rw [HN'.out, HNN.out]))
                go_upto_region 25 with (fail)
                refine wp_region_still_tail 13 (by kernel_rfl) (by kernel_rfl) ?_
                change wpStill _ _ w6.drew _ _ _
                simp only [List.take_succ_cons, List.take_zero, List.drop_succ_cons, List.drop_zero]
                repeat still_step
                still_call ((HSI.out _ rfl).mono fun _ _ h => ⟨h.1, h.2.symm⟩)
                repeat still_step
                refine wpStill_nil ?_
                change wpList _ _ _ _ _ w6.drew
                go_wp2
                go_roundw
                case rel => exact ⟨k + 1, _, by omega, by go_num, HNX.out.1, HIN.out, HO7.out, HNX.out.2⟩
                case measure => simp [intOf]; omega
              · obtain rfl : k = vs.length := by omega
                have f5 : wr.frozen? ⟨g, 5, none⟩ = false := HQ.out.blk.frozen 5
                have d5 : wr.cell? ⟨g, 5, none⟩ = some (.slice r'.mA r'.met.length r'.mc) := HQ.out.blk.cell 5
                have HFIN := Lib.hid (show BumpR w base g m r l (.returned (.int .i64 0)) (wr.setCell ⟨g, 5, none⟩ (.slice none 0 0)) from ⟨by rw [HBM.out.2], { r' with mA := none, mc := 0, met := [] }, HQ.out.setMet none 0 [] (App.Own.nil _ _ _), by rw [HBM.out.1]; exact MvI.done HI.out.w HMV.out HNN.out HVS.out HVN.out HIK.out rfl rfl rfl rfl rfl rfl, ⟨HIK.out.sa.1, HIK.out.sa.2.1, HIK.out.sa.2.2, .inl rfl⟩, HM.out.setCell (p := ⟨g, 5, none⟩) (.inl (.inl rfl)) _⟩)
                go_wp2
                go_ret
                exact HFIN.out
end Go.Proofs.Ytgldhnjbodmbbaa.Qu
