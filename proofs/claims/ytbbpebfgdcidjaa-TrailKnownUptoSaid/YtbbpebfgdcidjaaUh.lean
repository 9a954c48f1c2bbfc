/- The document's trail: Move: what it answers and leaves. Conditions: the bounds DOk, the memory. -/
import Derived.Test.YtbbpebfgdcidjaaUg
namespace Go.Proofs.Ytbbpebfgdcidjaa.Ta
open Go.RowKit Go.Proofs.Ytbbpebfgdcidjaa.Mem Go.Proofs.Ytbbpebfgdcidjaa.Sl Go.Proofs.Ytbbpebfgdcidjaa.Cl Go.Proofs.Ytbbpebfgdcidjaa.App Go.Shelf
open Go.Proofs.Ytbbpebfgdcidjaa.FnL (enc_at below_then)
set_option linter.unusedVariables false

def badR (tt : List Int) (r : Int) : Bool := decide (0 ≤ r) && (decide ((tt.length : Int) ≤ r) || decide (tt.getD r.toNat 0 < 0))
def movR (tt : List Int) (r : Int) : Int := if 0 ≤ r then tt.getD r.toNat 0 else r
def movE (tt : List Int) (e : Ent) : Ent := (e.1, e.2.1, movR tt e.2.2)
def rmoveE (d : DM) (tt : List Int) : Int := if d.row.any (fun e => badR tt e.2.2) = true then 160 else 0
def rmoveD (d : DM) (tt : List Int) : DM := if d.row.any (fun e => badR tt e.2.2) = true then d else { d with row := d.row.map (movE tt) }
theorem set_fl {row : List Ent} {k : Nat} (hk : k < row.length) (e : Ent) : (((fl row).set (k * 3) (.int .i32 e.1)).set (k * 3 + 1) (.int .i64 e.2.1)).set (k * 3 + 2) (.int .i64 e.2.2) = fl (row.set k e) := by
  have h0 : ∀ (r : List Ent) (x : Ent), fl (r.take k ++ x :: r.drop (k + 1)) = fl (r.take k) ++ (en x ++ fl (r.drop (k + 1))) := fun r x => by
    rw [fl_append]; rfl
  have h1 : row = row.take k ++ row[k] :: row.drop (k + 1) := by rw [← List.drop_eq_getElem_cons hk, List.take_append_drop]
  have h2 : row.set k e = row.take k ++ e :: row.drop (k + 1) := by rw [List.set_eq_take_append_cons_drop, if_pos hk]
  have h3 : (fl (row.take k)).length = k * 3 := by rw [fl_len, List.length_take]; omega
  rw [h2, h0]
  conv => lhs; rw [h1, h0]
  rw [List.set_append_right _ _ (by omega), h3, Nat.sub_self, List.set_append_right _ _ (by omega), h3, List.set_append_right _ _ (by omega), h3]
  rw [show k * 3 + 1 - k * 3 = 1 by omega, show k * 3 + 2 - k * 3 = 2 by omega]
  rfl
theorem ER.set3 {w : World} {base b c : Nat} {row : List Ent} (h : ER w base (some ⟨b, 0, none⟩) c row) {k : Nat} (hk : k < row.length) (e : Ent) :
    ER (((w.setCell ⟨b, k * 3, none⟩ (.int .i32 e.1)).setCell ⟨b, k * 3 + 1, none⟩ (.int .i64 e.2.1)).setCell ⟨b, k * 3 + 2, none⟩ (.int .i64 e.2.2)) base (some ⟨b, 0, none⟩) c (row.set k e) := by
  rcases h with ⟨e1, _⟩ | ⟨g, cur, e1, h1, h2, h3, h4, h5, h6⟩
  · cases e1
  · cases e1
    refine .inr ⟨b, _, rfl, h1, by simpa using h2, h3, ((h4.set_ (k * 3) _).set_ (k * 3 + 1) _).set_ (k * 3 + 2) _, by simpa using h5, ?_⟩
    rw [List.length_set, ← set_fl hk, ← h6]
    simp only [Array.toList_setIfInBounds, List.take_set]
/-- The document's row, its first k entries moved. -/
def mixD (d : DM) (tt : List Int) (k : Nat) : DM := { d with row := (d.row.take k).map (movE tt) ++ d.row.drop k }
theorem mixD_zero (d : DM) (tt : List Int) : mixD d tt 0 = d := rfl
theorem mixD_len (d : DM) (tt : List Int) (k : Nat) : (mixD d tt k).row.length = d.row.length := by
  show ((d.row.take k).map (movE tt) ++ d.row.drop k).length = _
  rw [List.length_append, List.length_map, List.length_take, List.length_drop]; omega
theorem mixD_at (d : DM) (tt : List Int) {k : Nat} (h : k < (mixD d tt k).row.length) : (mixD d tt k).row[k] = d.row[k]'(by rwa [mixD_len] at h) := by
  have h' : k < d.row.length := by rwa [mixD_len] at h
  have e : (mixD d tt k).row = (d.row.take k).map (movE tt) ++ d.row.drop k := rfl
  have e2 : (mixD d tt k).row[k]? = some (d.row[k]) := by
    rw [e, List.getElem?_append_right (by rw [List.length_map, List.length_take]; omega), List.length_map, List.length_take, List.getElem?_drop, show k + (k - min k d.row.length) = k by omega, List.getElem?_eq_getElem h']
  rw [List.getElem?_eq_getElem h] at e2
  exact Option.some.inj e2
theorem mix_next (d : DM) (tt : List Int) {k : Nat} (h : k < d.row.length) : (mixD d tt k).row.set k (movE tt d.row[k]) = (mixD d tt (k + 1)).row := by
  show ((d.row.take k).map (movE tt) ++ d.row.drop k).set k _ = (d.row.take (k + 1)).map (movE tt) ++ d.row.drop (k + 1)
  rw [List.take_succ_eq_append_getElem h, List.map_append, List.set_append_right _ _ (by rw [List.length_map, List.length_take]; omega)]
  have e : k - ((d.row.take k).map (movE tt)).length = 0 := by rw [List.length_map, List.length_take]; omega
  rw [e, List.drop_eq_getElem_cons h, List.set_cons_zero, List.append_assoc]; rfl
abbrev set3W (W : World) (b k : Nat) (x yv z : Int) : World := ((W.setCell ⟨b, k * 3, none⟩ (.int .i32 x)).setCell ⟨b, k * 3 + 1, none⟩ (.int .i64 yv)).setCell ⟨b, k * 3 + 2, none⟩ (.int .i64 z)
theorem mod_set3 (W : World) (b k : Nat) (x yv z : Int) : Mem.Mod (fun i => i = b) W (set3W W.drew b k x yv z) :=
  (((Mem.Mod.refl (fun i => i = b) W).drew.setCell (p := ⟨b, k * 3, none⟩) (.inl rfl) _).setCell (p := ⟨b, k * 3 + 1, none⟩) (.inl rfl) _).setCell (p := ⟨b, k * 3 + 2, none⟩) (.inl rfl) _
theorem mix_step {w w' : World} (g : Nat) (hb : Below w.heap.size w w') (b k : Nat) (x yv z : Int) : DStep g (some ⟨b, 0, none⟩) (some ⟨b, 0, none⟩) w (set3W w'.drew b k x yv z) :=
  ⟨(Mem.Mod.none_ hb _).then_ ((mod_set3 w' b k x yv z).mono fun i _ e => .inr (by rw [e])), fun _ _ h => h⟩
theorem mix_fin {w w' : World} {base g b c k : Nat} {d : DM} {tt : List Int} {x yv z : Int} {e : Ent} (h : DrS w base g (mixD d tt k) (some ⟨b, 0, none⟩) c) (hk : k < (mixD d tt k).row.length) (hb : Below w.heap.size w w')
    (hn : (mixD d tt k).row.set k (movE tt e) = (mixD d tt (k + 1)).row) (he : movE tt e = (x, yv, z)) : DrS (set3W w'.drew b k x yv z) base g (mixD d tt (k + 1)) (some ⟨b, 0, none⟩) c := by
  have h' := h.below hb
  have hm := mod_set3 w' b k x yv z
  have hgb : g ≠ b := fun e => h'.rows.ne_blk h'.blk (by decide) (by rw [e])
  have hbk := h'.blk.mod hm hgb
  have hr := (ER.set3 (w := w'.drew) h'.rows hk (x, yv, z))
  rw [← he, hn] at hr
  rw [he] at hr
  refine ⟨?_, hr, h.bg⟩
  rw [mixD_len] at hbk ⊢
  exact hbk
/-- What Move of the document leaves: the same row, moved. -/
def RMoveR (w : World) (base g : Nat) (A : Option Addr) (c : Nat) (d : DM) (tt : List Int) (e : Ending) (w' : World) : Prop :=
  e = .returned (.int .i64 (rmoveE d tt)) ∧ DrS w' base g (rmoveD d tt) A c ∧ DStep g A A w w'
set_option maxRecDepth 100000 in
theorem rmove_any {base g c : Nat} {d : DM} {A : Option Addr} {w : World} (h : DrS w base g d A c) (ok : DOk d) (B : Option Addr) (n cb : Nat) (tt : List Int) (hn : n = tt.length) (hr : RdV w B (tt.map (Value.int .i64))) (htt : ∀ y, y ∈ tt → -9223372036854775808 ≤ y ∧ y ≤ 9223372036854775807) (hnx : n ≤ 9223372036854775807)
    (hap : 0 < tt.length → ∀ b off, B = some ⟨b, off, none⟩ → ¬ mineD g A b) : Calls Try.prog 43 #[.pointer (some ⟨g, 0, none⟩), .slice B n cb] w fun e w' => RMoveR w base g A c d tt e w' := by
  have H := Lib.hid h
  have OK := Lib.hid ok
  have HRD := Lib.hid hr
  have HAP := Lib.hid hap
  have HTN := Lib.hid hn
  have hln := ok.ln
  have HEB := Lib.hid ok.eb
  have HC1 := Lib.hid (fun W (hb : Below w.heap.size w W) => (h.below hb).blk.cell 1)
  have c1 : w.cell? ⟨g, 1, none⟩ = some (.slice A d.row.length c) := h.blk.cell 1
  clear h ok hr hap htt hn
  generalize hL : d.row.length = L at *
  have HL := Lib.hid hL
  clear hL
  go_enter Try.func43, Try.ntmps43
  go_wp2_with fail
  go_loopw [5, 6] (fun i z wr => ∃ k : Nat, k ≤ L ∧ i = .int .i64 k ∧ (d.row.take k).any (fun e => badR tt e.2.2) = false ∧ w = wr) (fun i _ _ => L - (intOf i).toNat)
  case atStart => exact ⟨0, Nat.zero_le _, rfl, rfl, rfl⟩
  case round =>
    obtain ⟨k, hk, rfl, hf, rfl⟩ := hrel
    have HF := Lib.hid hf
    clear hf
    by_cases hlt : k < L
    · have hkl : k < d.row.length := by rw [HL.out]; exact hlt
      obtain ⟨b, ha, _, -, -, hc2⟩ := H.out.rows.at_ hkl
      subst ha
      have hb := HEB.out _ (List.getElem_mem hkl)
      have HBAD := Lib.hid (fun (hh : badR tt d.row[k].2.2 = true) => (show d.row.any (fun e => badR tt e.2.2) = true from List.any_eq_true.2 ⟨_, List.getElem_mem hkl, hh⟩))
      have HGOOD := Lib.hid (fun (hh : badR tt d.row[k].2.2 = false) => (show (d.row.take (k + 1)).any (fun e => badR tt e.2.2) = false from by rw [List.take_succ_eq_append_getElem hkl, List.any_append, HF.out]; simp [hh]))
      have HDN := Lib.hid (show ∀ w', (d.row.any (fun e => badR tt e.2.2) = true) → Below w.heap.size w w' → RMoveR w base g (some ⟨b, 0, none⟩) c d tt (.returned (.int .i64 160)) w' from fun w' hany hbl => ⟨by unfold rmoveE; rw [if_pos hany], by unfold rmoveD; rw [if_pos hany]; exact H.out.below hbl, DStep.of_below _ _ hbl⟩)
      generalize d.row[k]'hkl = y at *
      obtain ⟨x, yv, r⟩ := y
      dsimp only at hc2 hb HBAD HGOOD
      obtain ⟨_, _, _, hr1, hr2⟩ := hb
      clear hkl
      by_cases p1 : 0 ≤ r
      · obtain ⟨rn, rfl⟩ : ∃ rn : Nat, r = rn := ⟨r.toNat, by omega⟩
        by_cases p2 : (n : Int) ≤ (rn : Int)
        · have HD := Lib.hid (HBAD.out (by unfold badR; rw [← HTN.out]; simp; omega))
          clear HBAD HGOOD
          have p3 : n ≤ rn := by omega
          go_wp2
          go_ret
          exact HDN.out _ HD.out (Below.refl _ _)
        · have hrl : rn < tt.length := by rw [← HTN.out]; omega
          have p3 : ¬ n ≤ rn := by omega
          have p4 : (rn : Int) < (n : Int) := by omega
          obtain ⟨bt, ot, eB, _, hct⟩ := RdV.at_ HRD.out (enc_at (enc := Value.int .i64) hrl)
          subst eB
          have HB2 := Lib.hid (show badR tt (rn : Int) = decide (tt[rn] < 0) by
            unfold badR
            rw [Int.toNat_natCast, List.getD_eq_getElem?_getD, List.getElem?_eq_getElem hrl, ← HTN.out]
            simp; omega)
          generalize tt[rn]'hrl = z at *
          clear hrl
          by_cases p5 : z < 0
          · have HD := Lib.hid (HBAD.out (by rw [HB2.out]; simp [p5]))
            clear HBAD HGOOD
            go_wp2
            go_ret
            exact HDN.out _ HD.out (Below.refl _ _)
          · have HE := Lib.hid (HGOOD.out (by rw [HB2.out]; simp [p5]))
            clear HBAD HGOOD
            go_wp2
            go_roundw
            case rel => exact ⟨k + 1, by omega, by go_num, HE.out, trivial⟩
            case measure => simp [intOf]; omega
      · have HE := Lib.hid (HGOOD.out (by unfold badR; simp [p1]))
        clear HBAD HGOOD
        go_wp2
        go_roundw
        case rel => exact ⟨k + 1, by omega, by go_num, HE.out, trivial⟩
        case measure => simp [intOf]; omega
    · have HNO := Lib.hid (show d.row.any (fun e => badR tt e.2.2) = false by have := HF.out; rwa [List.take_of_length_le (by rw [HL.out]; omega)] at this)
      have hkL : k = L := by omega
      have HKL := Lib.hid hkL
      clear hkL
      go_wp2_with fail
      have HME := Lib.hid (show rmoveE d tt = 0 ∧ rmoveD d tt = mixD d tt L from ⟨by unfold rmoveE; rw [if_neg (by rw [HNO.out]; decide)], by
        unfold rmoveD; rw [if_neg (by rw [HNO.out]; decide)]; unfold mixD
        rw [← HL.out, List.take_length, List.drop_length, List.append_nil]⟩)
      have HGD := Lib.hid (fun (j : Nat) (hj : j < d.row.length) => (show badR tt d.row[j].2.2 = false from by
        rcases hq : badR tt d.row[j].2.2 with _ | _
        · rfl
        · exact absurd (List.any_eq_true.2 ⟨_, List.getElem_mem hj, hq⟩) (by rw [HNO.out]; decide)))
      clear HNO HF hk hlt HKL
      go_loopw [7] (fun i wr => ∃ k : Nat, k ≤ L ∧ i = .int .i64 k ∧ DrS wr base g (mixD d tt k) A c ∧ DStep g A A w wr) (fun i _ => L - (intOf i).toNat)
      case atStart => exact ⟨0, Nat.zero_le _, rfl, by rw [mixD_zero]; exact H.out, DStep.refl _ _ _⟩
      case round =>
        obtain ⟨k, hk, rfl, hD, hS⟩ := hrel
        have HD := Lib.hid hD
        have HS := Lib.hid hS
        clear c1
        have c1 : wr.cell? ⟨g, 1, none⟩ = some (.slice A L c) := by rw [← HL.out, ← mixD_len d tt k]; exact hD.blk.cell 1
        clear hD hS
        by_cases hlt : k < L
        · have hkl : k < d.row.length := by rw [HL.out]; exact hlt
          have hkm : k < (mixD d tt k).row.length := by rw [mixD_len]; exact hkl
          obtain ⟨b, ha, hbl, hc0, hc1, hc2⟩ := HD.out.rows.at_ hkm
          have hgb : g ≠ b := fun e => HD.out.rows.ne_blk HD.out.blk (by decide) (by rw [ha, e])
          subst ha
          have HGK := Lib.hid (HGD.out k hkl)
          have HNX := Lib.hid (mix_next d tt hkl)
          have HEK := Lib.hid (mixD_at d tt hkm)
          have hfz0 := HD.out.rows.frozen (k * 3)
          have hfz1 := HD.out.rows.frozen (k * 3 + 1)
          have hfz2 := HD.out.rows.frozen (k * 3 + 2)
          rw [mixD_at d tt hkm] at hc0 hc1 hc2
          have hb := HEB.out _ (List.getElem_mem hkl)
          have HRD2 := Lib.hid (show RdV wr B (tt.map (Value.int .i64)) from fun hp => (HRD.out.mod HS.out.md (fun bb oo e => HAP.out (by simpa using hp) bb oo e)) hp)
          generalize d.row[k]'hkl = y at *
          obtain ⟨x, yv, r⟩ := y
          dsimp only at hc0 hc1 hc2 hb HGK HNX
          obtain ⟨_, _, _, hr1, hr2⟩ := hb
          have hkL2 := Lib.hid hkm
          clear hkl hkm HEK HC1 HME
          by_cases p1 : 0 ≤ r
          · obtain ⟨rn, rfl⟩ : ∃ rn : Nat, r = rn := ⟨r.toNat, by omega⟩
            have hrl : rn < tt.length := by
              have := HGK.out
              unfold badR at this
              simp only [Bool.and_eq_false_iff, Bool.or_eq_false_iff, decide_eq_false_iff_not] at this
              omega
            have p4 : (rn : Int) < (n : Int) := by have := HTN.out; omega
            obtain ⟨bt, ot, eB, _, hct⟩ := RdV.at_ HRD2.out (enc_at (enc := Value.int .i64) hrl)
            subst eB
            have HMV := Lib.hid (show movE tt (x, yv, (rn : Int)) = (x, yv, tt[rn]) by
              unfold movE movR
              rw [if_pos p1, Int.toNat_natCast, List.getD_eq_getElem?_getD, List.getElem?_eq_getElem hrl]; rfl)
            generalize tt[rn]'hrl = z at *
            clear hrl HGK
            go_upto_region 13 with (fail)
            obtain ⟨W2, hW2⟩ : ∃ W2, W2 = wr.alloc (.cells #[.int .i32 x, .int .i64 yv, .int .i64 z] 85) := ⟨_, rfl⟩
            rw [← hW2]
            have HB2 := Lib.hid (show Below wr.heap.size wr W2 from hW2 ▸ (Below.refl _ _).alloc (Nat.le_refl _) _)
            have HK2 := Lib.hid (show Blk W2 wr.heap.size 85 #[.int .i32 x, .int .i64 yv, .int .i64 z] from hW2 ▸ Blk.new wr _ _)
            clear hW2
            have HD2 := Lib.hid (HD.out.below HB2.out)
            have HNXT := Lib.hid (mix_fin HD.out hkL2.out HB2.out HNX.out HMV.out)
            have HWF := Lib.hid (HS.out.trans (mix_step g HB2.out b k x yv z))
            have dc1 : W2.cell? ⟨g, 1, none⟩ = some (.slice (some ⟨b, 0, none⟩) L c) := by rw [← HL.out, ← mixD_len d tt k]; exact HD2.out.blk.cell 1
            have dx0 : W2.cell? ⟨wr.heap.size, 0, none⟩ = some (.int .i32 x) := HK2.out.cell 0
            have dx1 : W2.cell? ⟨wr.heap.size, 1, none⟩ = some (.int .i64 yv) := HK2.out.cell 1
            have dx2 : W2.cell? ⟨wr.heap.size, 2, none⟩ = some (.int .i64 z) := HK2.out.cell 2
            have dy0 : W2.cell? ⟨b, k * 3, none⟩ = some (.int .i32 x) := (HB2.out.cell (p := ⟨b, k * 3, none⟩) hbl).trans hc0
            have dy1 : W2.cell? ⟨b, k * 3 + 1, none⟩ = some (.int .i64 yv) := (HB2.out.cell (p := ⟨b, k * 3 + 1, none⟩) hbl).trans hc1
            have dy2 : W2.cell? ⟨b, k * 3 + 2, none⟩ = some (.int .i64 (rn : Int)) := (HB2.out.cell (p := ⟨b, k * 3 + 2, none⟩) hbl).trans hc2
            have dg0 : W2.frozen? ⟨b, k * 3, none⟩ = false := HD2.out.rows.frozen _
            have dg1 : W2.frozen? ⟨b, k * 3 + 1, none⟩ = false := HD2.out.rows.frozen _
            have dg2 : W2.frozen? ⟨b, k * 3 + 2, none⟩ = false := HD2.out.rows.frozen _
            clear hc0 hc1 hc2 hfz0 hfz1 hfz2 c1
            refine wp_region_still_tail 7 (by kernel_rfl) (by kernel_rfl) ?_
            change wpStill _ _ W2.drew _ _ _
            simp only [List.take_succ_cons, List.take_zero, List.drop_succ_cons, List.drop_zero]
            repeat still_step
            refine wpStill_nil ?_
            change wpList _ _ _ _ _ W2.drew
            go_wp2
            go_roundw
            case rel => exact ⟨k + 1, by omega, by go_num, HNXT.out, HWF.out⟩
            case measure => simp [intOf]; omega
          · have HMV := Lib.hid (show movE tt (x, yv, r) = (x, yv, r) by unfold movE movR; rw [if_neg p1])
            clear HGK
            go_upto_region 13 with (fail)
            obtain ⟨W2, hW2⟩ : ∃ W2, W2 = wr.alloc (.cells #[.int .i32 x, .int .i64 yv, .int .i64 r] 85) := ⟨_, rfl⟩
            rw [← hW2]
            have HB2 := Lib.hid (show Below wr.heap.size wr W2 from hW2 ▸ (Below.refl _ _).alloc (Nat.le_refl _) _)
            have HK2 := Lib.hid (show Blk W2 wr.heap.size 85 #[.int .i32 x, .int .i64 yv, .int .i64 r] from hW2 ▸ Blk.new wr _ _)
            clear hW2
            have HD2 := Lib.hid (HD.out.below HB2.out)
            have HNXT := Lib.hid (mix_fin HD.out hkL2.out HB2.out HNX.out HMV.out)
            have HWF := Lib.hid (HS.out.trans (mix_step g HB2.out b k x yv r))
            have dc1 : W2.cell? ⟨g, 1, none⟩ = some (.slice (some ⟨b, 0, none⟩) L c) := by rw [← HL.out, ← mixD_len d tt k]; exact HD2.out.blk.cell 1
            have dx0 : W2.cell? ⟨wr.heap.size, 0, none⟩ = some (.int .i32 x) := HK2.out.cell 0
            have dx1 : W2.cell? ⟨wr.heap.size, 1, none⟩ = some (.int .i64 yv) := HK2.out.cell 1
            have dx2 : W2.cell? ⟨wr.heap.size, 2, none⟩ = some (.int .i64 r) := HK2.out.cell 2
            have dy0 : W2.cell? ⟨b, k * 3, none⟩ = some (.int .i32 x) := (HB2.out.cell (p := ⟨b, k * 3, none⟩) hbl).trans hc0
            have dy1 : W2.cell? ⟨b, k * 3 + 1, none⟩ = some (.int .i64 yv) := (HB2.out.cell (p := ⟨b, k * 3 + 1, none⟩) hbl).trans hc1
            have dy2 : W2.cell? ⟨b, k * 3 + 2, none⟩ = some (.int .i64 r) := (HB2.out.cell (p := ⟨b, k * 3 + 2, none⟩) hbl).trans hc2
            have dg0 : W2.frozen? ⟨b, k * 3, none⟩ = false := HD2.out.rows.frozen _
            have dg1 : W2.frozen? ⟨b, k * 3 + 1, none⟩ = false := HD2.out.rows.frozen _
            have dg2 : W2.frozen? ⟨b, k * 3 + 2, none⟩ = false := HD2.out.rows.frozen _
            clear hc0 hc1 hc2 hfz0 hfz1 hfz2 c1
            refine wp_region_still_tail 7 (by kernel_rfl) (by kernel_rfl) ?_
            change wpStill _ _ W2.drew _ _ _
            simp only [List.take_succ_cons, List.take_zero, List.drop_succ_cons, List.drop_zero]
            repeat still_step
            refine wpStill_nil ?_
            change wpList _ _ _ _ _ W2.drew
            go_wp2
            go_roundw
            case rel => exact ⟨k + 1, by omega, by go_num, HNXT.out, HWF.out⟩
            case measure => simp [intOf]; omega
        · have hkL : k = L := by omega
          have HFIN := Lib.hid (show RMoveR w base g A c d tt (.returned (.int .i64 0)) wr from ⟨by rw [HME.out.1], by rw [HME.out.2, ← hkL]; exact HD.out, HS.out⟩)
          clear hkL
          go_wp2
          go_ret
          exact HFIN.out
end Go.Proofs.Ytbbpebfgdcidjaa.Ta
