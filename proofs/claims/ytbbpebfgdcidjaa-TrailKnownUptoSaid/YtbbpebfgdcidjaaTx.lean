/- TrailBack at whatever memory. -/
import Derived.Test.YtbbpebfgdcidjaaTw
import Derived.BigQuiet
namespace Go.Proofs.Ytbbpebfgdcidjaa.Ta
open Go.RowKit Go.Proofs.Ytbbpebfgdcidjaa.Mem Go.Proofs.Ytbbpebfgdcidjaa.Sl Go.Proofs.Ytbbpebfgdcidjaa.Cl Go.Proofs.Ytbbpebfgdcidjaa.App Go.Shelf
open Go.Proofs.Ytbbpebfgdcidjaa.FnL (enc_at below_then)
open Go.Proofs.Ytbbpebfgdcidjaa.Lt (Later wp_region_later)
set_option linter.unusedVariables false

set_option maxRecDepth 100000 in
set_option maxHeartbeats 4000000 in
theorem tback_walk {w : World} (v : Int) (hv0 : -9223372036854775808 ≤ v) (hv1 : v ≤ 9223372036854775807) (A1 : Option Addr) (n1 c1 : Nat) (l1 : List St) (h1 : Sts w.heap.size w A1 n1 l1) (A2 : Option Addr) (n2 c2 : Nat) (l2 : List St) (h2 : Sts w.heap.size w A2 n2 l2) :
    Calls Try.prog 3 #[.int .i64 v, .slice A1 n1 c1, .slice A2 n2 c2] w fun e w' => e = .returned (.bool true) ∧ Below w.heap.size w w' := by
  have H1 := Lib.hid h1
  have H2 := Lib.hid h2
  have L1 := Lib.hid h1.ln
  have L2 := Lib.hid h2.ln
  have hm1 := h1.mx
  have hm2 := h2.mx
  clear h1 h2
  obtain ⟨N, hN⟩ : ∃ N : Nat, pickI v 9 = N := ⟨(pickI v 9).toNat, by have := pickI_bd v (n := 9) (by omega); omega⟩
  have hN8 : N ≤ 8 := by have := pickI_bd v (n := 9) (by omega); omega
  have HN := Lib.hid hN
  go_enter Try.func3, Try.ntmps3
  go_wp2_with fail
  refine (few_any (Nat.le_refl _) A1 n1 c1 l1 H1.out).mono ?_
  rintro e w1 ⟨⟨b1, rfl, hb1⟩, hw1⟩
  have HB1 := Lib.hid hw1
  clear hw1
  rcases b1 with _ | _
  · go_wp2
    go_ret
    exact ⟨rfl, HB1.out⟩
  have hn1 := hb1 rfl
  clear hb1
  go_wp2_with fail
  refine (few_any HB1.out.size A2 n2 c2 l2 (H2.out.below HB1.out)).mono ?_
  rintro e w2 ⟨⟨b2, rfl, hb2⟩, hw2⟩
  have HB2 := Lib.hid (below_then HB1.out hw2 HB1.out.size)
  clear hw2
  rcases b2 with _ | _
  · go_wp2
    go_ret
    exact ⟨rfl, HB2.out⟩
  have hn2 := hb2 rfl
  clear hb2 HB1
  go_wp2_with fail
  refine (pick_any v hv0 hv1 9 (by omega) (by omega) _).mono ?_
  rintro e w3 ⟨rfl, rfl⟩
  rw [HN.out]
  go_wp2_with fail
  refine (new_ok N (by omega) _).mono ?_
  rintro e w3 ⟨g, q0, rfl, ht, hw3⟩
  have HG0 := Lib.hid (show G N 0 (newM N) from ⟨newM_wf (by omega), Nat.le_refl _, Nat.le_refl _, rfl⟩)
  have HB3 := Lib.hid (below_then HB2.out hw3 HB2.out.size)
  have HT0 := Lib.hid (ht.low HB2.out.size)
  clear ht hw3 HB2 HN hN
  go_wp2_with fail
  go_loopw [9] (fun i wr => ∃ (k : Nat) (m : TM) (q : TQ), k ≤ n1 ∧ i = .int .i64 k ∧ G N k m ∧ TrS wr w.heap.size g m q ∧ Below w.heap.size w wr) (fun i _ => n1 - (intOf i).toNat)
  case atStart => exact ⟨0, _, _, Nat.zero_le _, rfl, HG0.out, HT0.out, HB3.out⟩
  case round =>
    clear HG0 HT0 HB3
    obtain ⟨k, m1, q1, hk, rfl, hg, ht, hb⟩ := hrel
    have HG := Lib.hid hg
    have HT := Lib.hid ht
    have HB := Lib.hid hb
    clear hg ht hb
    rename World => wr
    by_cases hlt : k < n1
    · have hkl : k < l1.length := by rw [← L1.out]; exact hlt
      obtain ⟨b, off, ha, _, ⟨hc0, hc1, hc2, hc3⟩, hok⟩ := (H1.out.below HB.out).at_ hkl
      subst ha
      have HP := Lib.hid (lput_any HT.out HG.out.wf.ok (by have := HG.out.ln; omega) (by have := HG.out.sn; omega) l1[k] hok.kb hok.lb)
      have HGN := Lib.hid (putS_G HG.out (by omega) l1[k] hok.lb.1 hok.lb.2 hok.nb.2)
      generalize l1[k]'hkl = y at *
      generalize putS m1 y = m' at *
      clear hkl hok
      generalize y.k = yk at *
      generalize y.l = yl at *
      generalize y.n = yn at *
      generalize y.A = yA at *
      generalize y.tn = ytn at *
      generalize y.tc = ytc at *
      go_wp2_with fail
      refine HP.out.mono ?_
      rintro e w4 ⟨rfl, q', ht, hs⟩
      have HT' := Lib.hid ht
      have HB' := Lib.hid (HB.out.trans (hs.below HT.out HB.out.size))
      clear ht hs
      go_wp2
      go_roundw
      case rel => exact ⟨k + 1, m', q', by omega, by go_num, HGN.out, HT'.out, HB'.out⟩
      case measure => simp [intOf]; omega
    · go_wp2_with fail
      have hk60 : k ≤ 60 := by omega
      clear hlt hk H1 L1
      refine (levels_any HT.out).mono ?_
      rintro e w4 ⟨rfl, rfl⟩
      go_wp2_with fail
      refine (lits_any HT.out HG.out.wf.ok).mono ?_
      rintro e w4 ⟨A, c, rfl, hO, hb⟩
      have HKB := Lib.hid (Kept.of HT.out hO)
      have HT4 := Lib.hid (HT.out.below hb)
      have HB4 := Lib.hid (below_then HB.out hb HB.out.size)
      have HG4 := Lib.hid (show G N (60 + 0) m1 from ⟨HG.out.wf, by have := HG.out.ln; omega, by have := HG.out.sn; omega, HG.out.N⟩)
      clear hO hb HT HB
      go_wp2_with fail
      go_loopw [12, 13, 14] (fun f i z wr => ∃ (k : Nat) (m : TM) (q : TQ) (b : Bool), k ≤ n2 ∧ i = .int .i64 k ∧ f = .bool b ∧ G N (60 + k) m ∧ Inv m1 m b ∧ TrS wr w.heap.size g m q ∧ Kept wr g q 30 A m1.lits.length c (LI m1.lits) ∧ Below w.heap.size w wr) (fun _ i _ _ => n2 - (intOf i).toNat)
      case atStart => exact ⟨0, _, _, true, Nat.zero_le _, rfl, rfl, HG4.out, .inl ⟨rfl, rfl⟩, HT4.out, HKB.out, HB4.out⟩
      case round =>
        clear HKB HT4 HB4 HG4
        obtain ⟨k, m, q, b, hk, rfl, rfl, hg, hi, ht, hkb, hb⟩ := hrel
        have HG2 := Lib.hid hg
        have HI := Lib.hid hi
        have HT := Lib.hid ht
        have HKB := Lib.hid hkb
        have HB := Lib.hid hb
        clear hg hi ht hkb hb
        rename World => wr
        by_cases hlt : k < n2
        · have hkl : k < l2.length := by rw [← L2.out]; exact hlt
          obtain ⟨ab, off, ha, _, ⟨hc0, hc1, hc2, hc3⟩, hok⟩ := (H2.out.below HB.out).at_ hkl
          subst ha
          have hkb := hok.kb
          have hlb := hok.lb
          have hnb := hok.nb
          have HIN := Lib.hid (inv_step HI.out l2[k])
          clear hok
          generalize l2[k]'hkl = y at *
          clear hkl
          have HW := Lib.hid (fun (ck : Int) => (show Below wr.heap.size wr (wr.alloc (.cells #[.int .i64 ck, .int .i32 y.l, .int .i64 y.n, .slice y.A y.tn y.tc] 33)) from (Below.refl _ _).alloc (Nat.le_refl _) _))
          rcases b with _ | _
          · have HGN := Lib.hid (putS_G HG2.out (by omega) y hlb.1 hlb.2 hnb.2)
            have hin : Inv m1 (putS m y) (decide ((putS m y).starts.length = m1.starts.length)) := HIN.out
            have HI2 := Lib.hid hin
            clear hin HIN
            have HP := Lib.hid (lput_any (HT.out.below (HW.out y.k)) HG2.out.wf.ok (by have := HG2.out.ln; omega) (by have := HG2.out.sn; omega) y hkb hlb)
            have HK5 := Lib.hid (HKB.out.below (HW.out y.k))
            have HB5 := Lib.hid (below_then HB.out (HW.out y.k) HB.out.size)
            generalize putS m y = m' at *
            generalize y.k = yk at *
            generalize y.l = yl at *
            generalize y.n = yn at *
            generalize y.A = yA at *
            generalize y.tn = ytn at *
            generalize y.tc = ytc at *
            go_upto_region 18 with (fail)
            obtain ⟨W5, hW5⟩ : ∃ W5, W5 = wr.alloc (.cells #[.int .i64 yk, .int .i32 yl, .int .i64 yn, .slice yA ytn ytc] 33) := ⟨_, rfl⟩
            rw [← hW5] at HP HK5 HB5 ⊢
            have d0 : W5.cell? ⟨wr.heap.size, 0, none⟩ = some (.int .i64 yk) := by rw [hW5]; exact (Blk.new wr _ _).cell 0
            have d1 : W5.cell? ⟨wr.heap.size, 1, none⟩ = some (.int .i32 yl) := by rw [hW5]; exact (Blk.new wr _ _).cell 1
            have d2 : W5.cell? ⟨wr.heap.size, 2, none⟩ = some (.int .i64 yn) := by rw [hW5]; exact (Blk.new wr _ _).cell 2
            have d3 : W5.cell? ⟨wr.heap.size, 3, none⟩ = some (.slice yA ytn ytc) := by rw [hW5]; exact (Blk.new wr _ _).cell 3
            have HT5 := Lib.hid (show TrS W5 w.heap.size g m q by rw [hW5]; exact HT.out.below (HW.out yk))
            clear hW5 HT HKB HB HW
            go_wp2_with fail
            refine HP.out.mono ?_
            rintro e w6 ⟨rfl, q', ht, hs⟩
            have HT6 := Lib.hid ht
            have HB6 := Lib.hid (HB5.out.trans (hs.below HT5.out HB5.out.size))
            have HK6 := Lib.hid (HK5.out.step hs)
            clear ht hs d0 d1 d2 d3
            go_wp2_with fail
            refine (levels_any HT6.out).mono ?_
            rintro e w7 ⟨rfl, rfl⟩
            have HDB := Lib.hid (show ((m'.starts.length : Int) == (m1.starts.length : Int)) = decide (m'.starts.length = m1.starts.length) by
              by_cases e : m'.starts.length = m1.starts.length
              · rw [e]; simp
              · rw [decide_eq_false e]; simp; omega)
            go_wp2
            rw [HDB.out]
            go_roundw
            case rel => exact ⟨k + 1, m', q', _, by omega, by go_num, rfl, HGN.out, HI2.out, HT6.out, HK6.out, HB6.out⟩
            case measure => simp [intOf]; omega
          · have HGN := Lib.hid (putS_G HG2.out (by omega) { y with k := 0 } hlb.1 hlb.2 hnb.2)
            have hin : Inv m1 (putS m { y with k := 0 }) (decide ((putS m { y with k := 0 }).starts.length = m1.starts.length)) := HIN.out
            have HI2 := Lib.hid hin
            clear hin HIN
            have HP := Lib.hid (lput_any (HT.out.below (HW.out 0)) HG2.out.wf.ok (by have := HG2.out.ln; omega) (by have := HG2.out.sn; omega) { y with k := 0 } (by show (-9223372036854775808 : Int) ≤ 0 ∧ (0 : Int) ≤ 9223372036854775807; decide) hlb)
            have HK5 := Lib.hid (HKB.out.below (HW.out 0))
            have HB5 := Lib.hid (below_then HB.out (HW.out 0) HB.out.size)
            generalize putS m { y with k := 0 } = m' at *
            generalize y.k = yk at *
            generalize y.l = yl at *
            generalize y.n = yn at *
            generalize y.A = yA at *
            generalize y.tn = ytn at *
            generalize y.tc = ytc at *
            go_upto_region 18 with (fail)
            obtain ⟨W5, hW5⟩ : ∃ W5, W5 = wr.alloc (.cells #[.int .i64 0, .int .i32 yl, .int .i64 yn, .slice yA ytn ytc] 33) := ⟨_, rfl⟩
            rw [← hW5] at HP HK5 HB5 ⊢
            have d0 : W5.cell? ⟨wr.heap.size, 0, none⟩ = some (.int .i64 0) := by rw [hW5]; exact (Blk.new wr _ _).cell 0
            have d1 : W5.cell? ⟨wr.heap.size, 1, none⟩ = some (.int .i32 yl) := by rw [hW5]; exact (Blk.new wr _ _).cell 1
            have d2 : W5.cell? ⟨wr.heap.size, 2, none⟩ = some (.int .i64 yn) := by rw [hW5]; exact (Blk.new wr _ _).cell 2
            have d3 : W5.cell? ⟨wr.heap.size, 3, none⟩ = some (.slice yA ytn ytc) := by rw [hW5]; exact (Blk.new wr _ _).cell 3
            have HT5 := Lib.hid (show TrS W5 w.heap.size g m q by rw [hW5]; exact HT.out.below (HW.out 0))
            clear hW5 HT HKB HB HW
            go_wp2_with fail
            refine HP.out.mono ?_
            rintro e w6 ⟨rfl, q', ht, hs⟩
            have HT6 := Lib.hid ht
            have HB6 := Lib.hid (HB5.out.trans (hs.below HT5.out HB5.out.size))
            have HK6 := Lib.hid (HK5.out.step hs)
            clear ht hs d0 d1 d2 d3
            go_wp2_with fail
            refine (levels_any HT6.out).mono ?_
            rintro e w7 ⟨rfl, rfl⟩
            have HDB := Lib.hid (show ((m'.starts.length : Int) == (m1.starts.length : Int)) = decide (m'.starts.length = m1.starts.length) by
              by_cases e : m'.starts.length = m1.starts.length
              · rw [e]; simp
              · rw [decide_eq_false e]; simp; omega)
            go_wp2
            rw [HDB.out]
            go_roundw
            case rel => exact ⟨k + 1, m', q', _, by omega, by go_num, rfl, HGN.out, HI2.out, HT6.out, HK6.out, HB6.out⟩
            case measure => simp [intOf]; omega
        · go_wp2_with fail
          have hk120 : 60 + k ≤ 120 := by omega
          clear hlt hk H2 L2
          refine (lits_any HT.out HG2.out.wf.ok).mono ?_
          rintro e w5 ⟨A', c', rfl, hO, hb⟩
          have HKA := Lib.hid (Kept.of HT.out hO)
          have HKB5 := Lib.hid (HKB.out.below hb)
          have HT5 := Lib.hid (HT.out.below hb)
          have HB5 := Lib.hid (below_then HB.out hb HB.out.size)
          have HWF := Lib.hid HG2.out.wf
          have HMN := Lib.hid HG2.out.N
          have hL := HG2.out.ln
          have hS := HG2.out.sn
          have HLN := Lib.hid HG2.out.ln
          have hlb := HWF.out.ok.lb
          have HLB := Lib.hid (fun x (hx : x ∈ m.lits) => (show -8 ≤ x ∧ x ≤ 8 from by
            have h1 := hlb x hx
            have h2 := HMN.out
            have h3 : varI x = if x < 0 then -x else x := rfl
            split at h3 <;> omega))
          clear hO hb HT HKB HB HG2 hlb
          generalize hbm : m.lits.length = L at *
          generalize hbs : m.starts.length = sl at *
          have HBM := Lib.hid hbm
          have HBS := Lib.hid hbs
          clear hbm hbs
          go_wp2_with fail
          rename World => w6
          go_loopw [16, 17] (fun i z wr => ∃ k : Nat, k ≤ L ∧ i = .int .i64 k ∧ Below w6.heap.size w6 wr) (fun i _ _ => L - (intOf i).toNat)
          case atStart => exact ⟨0, Nat.zero_le _, rfl, Below.refl _ _⟩
          case round =>
            obtain ⟨k, hk, rfl, hb⟩ := hrel
            have HB := Lib.hid hb
            clear hb
            by_cases hlt : k < L
            · have hkl : k < m.lits.length := by rw [HBM.out]; exact hlt
              obtain ⟨ba, eA, hce⟩ := Own.here HKA.out.own hkl
              subst eA
              have hbal := World.block_lt_of_cell? w6 _ hce
              have hxb := HLB.out _ (List.getElem_mem hkl)
              have v1 := val_at HWF.out hkl
              have v2 := val_neg HWF.out hkl
              have v3 := place_at HWF.out hkl
              have v4 := level_at HWF.out hkl
              have v5 := lev_le m.starts k
              have HCE := Lib.hid (fun W' (hb : Below w6.heap.size w6 W') => (hb.cell (p := ⟨ba, k, none⟩) hbal).trans hce)
              have hsl := HBS.out
              rw [hsl] at v5
              clear hce
              obtain ⟨x, hx⟩ : ∃ x, m.lits[k] = x := ⟨_, rfl⟩
              rw [hx] at v1 v2 v3 v4 HCE hxb
              have HV1 := Lib.hid (fun W' (hb : Below w6.heap.size w6 W') => (show Calls Try.prog 14 #[.pointer (some ⟨g, 0, none⟩), .int .i32 x] W' fun e w' => e = .returned (.int .i64 1) ∧ Below W'.heap.size W' w' from by have := Value_any (HT5.out.below hb) HWF.out.ok x (by omega) (by omega); rwa [v1] at this))
              have HV2 := Lib.hid (fun W' (hb : Below w6.heap.size w6 W') => (show Calls Try.prog 14 #[.pointer (some ⟨g, 0, none⟩), .int .i32 (-x)] W' fun e w' => e = .returned (.int .i64 (-1)) ∧ Below W'.heap.size W' w' from by have := Value_any (HT5.out.below hb) HWF.out.ok (-x) (by omega) (by omega); rwa [v2] at this))
              have HP3 := Lib.hid (fun W' (hb : Below w6.heap.size w6 W') => (show Calls Try.prog 15 #[.pointer (some ⟨g, 0, none⟩), .int .i64 (varI x)] W' fun e w' => e = .returned (.int .i64 k) ∧ Below W'.heap.size W' w' from by have := Place_any (HT5.out.below hb) HWF.out.ok (varI x); rwa [v3] at this))
              have HL4 := Lib.hid (fun W' (hb : Below w6.heap.size w6 W') => (show Calls Try.prog 16 #[.pointer (some ⟨g, 0, none⟩), .int .i64 (varI x)] W' fun e w' => e = .returned (.int .i64 (lev m.starts k : Nat)) ∧ Below W'.heap.size W' w' from by have := Level_any (HT5.out.below hb) HWF.out.ok (varI x); rwa [v4] at this))
              have HS5 := Lib.hid (fun W' (hb : Below w6.heap.size w6 W') => (show Calls Try.prog 11 #[.pointer (some ⟨g, 0, none⟩)] W' fun e w' => e = .returned (.int .i64 sl) ∧ Below W'.heap.size W' w' from by have := levels_any (HT5.out.below hb); rw [hsl] at this; exact this.mono fun e w' h => ⟨h.1, by rw [h.2]; exact Below.refl _ _⟩))
              have hn5 : ¬ (sl : Int) < (lev m.starts k : Nat) := by omega
              have hn5' : ¬ sl < lev m.starts k := by omega
              have e1 : IntKind.i32.wrap (-x) = -x := by rw [show IntKind.i32.wrap (-x) = -x from IntWalk.i32_in _ (by omega)]
              clear v1 v2 v3 v4 v5 hsl
              rcases k with _ | j
              · have hc0 : wr.cell? ⟨ba, 0, none⟩ = some (.int .i32 x) := HCE.out _ HB.out
                generalize lev m.starts 0 = lk at *
                clear hx hkl
                go_wp2_with fail
                refine (Var_any x (by omega) (by omega) _).mono ?_
                rintro e w7 ⟨rfl, rfl⟩
                go_upto_region 25 with (fail)
                have P1 : ∀ p : Later wr, p.w'.cell? ⟨ba, 0, none⟩ = some (.int .i32 x) := fun p => HCE.out _ (below_then HB.out p.h HB.out.size)
                have M1 := Lib.hid (Later.meet (w := wr) fun W' hb => HV1.out W' (below_then HB.out hb HB.out.size))
                have M2 := Lib.hid (Later.meet (w := wr) fun W' hb => HV2.out W' (below_then HB.out hb HB.out.size))
                have M3 := Lib.hid (Later.meet (w := wr) fun W' hb => HP3.out W' (below_then HB.out hb HB.out.size))
                have M4 := Lib.hid (Later.meet (w := wr) fun W' hb => HL4.out W' (below_then HB.out hb HB.out.size))
                have M5 := Lib.hid (Later.meet (w := wr) fun W' hb => HS5.out W' (below_then HB.out hb HB.out.size))
                refine wp_region_later (by kernel_rfl) (by kernel_rfl) ?_
                repeat (go_big_quiet_step (first
                  | (go_at_call 14; first | with_reducible exact M1.out _ | with_reducible exact M2.out _)
                  | (go_at_call 15; exact M3.out _)
                  | (go_at_call 16; exact M4.out _)
                  | (go_at_call 11; exact M5.out _)))
                refine wpQuiet_nil ?_
                intro wq hw'
                obtain ⟨p, hp⟩ := hw'
                have hq : Below wr.heap.size wr wq := hp ▸ p.h
                have HBQ := Lib.hid (below_then HB.out hq HB.out.size)
                clear P1  hq hp p M1 M2 M3 M4 M5
                go_wp2
                go_roundw
                case rel => exact ⟨0 + 1, by omega, by go_num, HBQ.out⟩
                case measure => simp [intOf]; omega
              · have hjl : j < m.lits.length := by omega
                obtain ⟨ba2, eA2, hcj⟩ := Own.here HKA.out.own hjl
                have hba : ba = ba2 := by injection eA2 with e; injection e
                subst hba
                have HCJ := Lib.hid (fun W' (hb : Below w6.heap.size w6 W') => (hb.cell (p := ⟨ba, j, none⟩) hbal).trans hcj)
                have hyb := HLB.out _ (List.getElem_mem hjl)
                have v6 := level_at HWF.out hjl
                have hmo := lev_mono m.starts (show j ≤ j + 1 by omega)
                clear hcj eA2
                obtain ⟨y, hy⟩ : ∃ y, m.lits[j] = y := ⟨_, rfl⟩
                rw [hy] at v6 HCJ hyb
                have HL6 := Lib.hid (fun W' (hb : Below w6.heap.size w6 W') => (show Calls Try.prog 16 #[.pointer (some ⟨g, 0, none⟩), .int .i64 (varI y)] W' fun e w' => e = .returned (.int .i64 (lev m.starts j : Nat)) ∧ Below W'.heap.size W' w' from by have := Level_any (HT5.out.below hb) HWF.out.ok (varI y); rwa [v6] at this))
                have HY7 := Lib.hid (fun W' (hb : Below w6.heap.size w6 W') => (show Calls Try.prog 13 #[.int .i32 y] W' fun e w' => e = .returned (.int .i64 (varI y)) ∧ Below W'.heap.size W' w' from (Var_any y (by omega) (by omega) W').mono fun e w' h => ⟨h.1, by rw [← h.2]; exact Below.refl _ _⟩))
                have hc0 : wr.cell? ⟨ba, j + 1, none⟩ = some (.int .i32 x) := HCE.out _ HB.out
                have hn6 : ¬ ((lev m.starts (j + 1) : Nat) : Int) < (lev m.starts j : Nat) := by omega
                have hn6' : ¬ lev m.starts (j + 1) < lev m.starts j := by omega
                have hj1 : IntKind.i64.wrap (((j + 1 : Nat) : Int) - 1) = (j : Int) := by rw [IntWalk.i64_in _ (by omega)]; omega
                have hj2 : (0 : Int) < ((j + 1 : Nat) : Int) := by omega
                have hj3 : (j : Int) < (L : Int) := by omega
                have hj4 : (0 : Int) ≤ (j : Int) := by omega
                generalize lev m.starts (j + 1) = lk at *
                generalize lev m.starts j = lj at *
                clear hx hkl hjl hy hmo v6
                go_wp2_with fail
                refine (Var_any x (by omega) (by omega) _).mono ?_
                rintro e w7 ⟨rfl, rfl⟩
                go_upto_region 25 with (fail)
                have P1 : ∀ p : Later wr, p.w'.cell? ⟨ba, j + 1, none⟩ = some (.int .i32 x) := fun p => HCE.out _ (below_then HB.out p.h HB.out.size)
                have P2 : ∀ p : Later wr, p.w'.cell? ⟨ba, j, none⟩ = some (.int .i32 y) := fun p => HCJ.out _ (below_then HB.out p.h HB.out.size)
                have M1 := Lib.hid (Later.meet (w := wr) fun W' hb => HV1.out W' (below_then HB.out hb HB.out.size))
                have M2 := Lib.hid (Later.meet (w := wr) fun W' hb => HV2.out W' (below_then HB.out hb HB.out.size))
                have M3 := Lib.hid (Later.meet (w := wr) fun W' hb => HP3.out W' (below_then HB.out hb HB.out.size))
                have M4 := Lib.hid (Later.meet (w := wr) fun W' hb => HL4.out W' (below_then HB.out hb HB.out.size))
                have M5 := Lib.hid (Later.meet (w := wr) fun W' hb => HS5.out W' (below_then HB.out hb HB.out.size))
                have M6 := Lib.hid (Later.meet (w := wr) fun W' hb => HL6.out W' (below_then HB.out hb HB.out.size))
                have M7 := Lib.hid (Later.meet (w := wr) fun W' hb => HY7.out W' (below_then HB.out hb HB.out.size))
                refine wp_region_later (by kernel_rfl) (by kernel_rfl) ?_
                repeat (go_big_quiet_step (first
                  | (go_at_call 14; first | with_reducible exact M1.out _ | with_reducible exact M2.out _)
                  | (go_at_call 15; exact M3.out _)
                  | (go_at_call 16; first | with_reducible exact M4.out _ | with_reducible exact M6.out _)
                  | (go_at_call 13; exact M7.out _)
                  | (go_at_call 11; exact M5.out _)))
                refine wpQuiet_nil ?_
                intro wq hw'
                obtain ⟨p, hp⟩ := hw'
                have hq : Below wr.heap.size wr wq := hp ▸ p.h
                have HBQ := Lib.hid (below_then HB.out hq HB.out.size)
                clear P1 P2 hq hp p M1 M2 M3 M4 M5 M6 M7
                go_wp2
                go_roundw
                case rel => exact ⟨j + 1 + 1, by omega, by go_num, HBQ.out⟩
                case measure => simp [intOf]; omega
            · go_wp2_with fail
              clear hlt hk
              obtain ⟨r1, r2, r3, r4, r5, r6⟩ := back_law HI.out HWF.out
              have HTr := Lib.hid (HT5.out.below HB.out)
              have HKAr := Lib.hid (HKA.out.below HB.out)
              have HKBr := Lib.hid (HKB5.out.below HB.out)
              have HBr := Lib.hid (below_then HB5.out HB.out HB5.out.size)
              have HC := Lib.hid (back_any HTr.out HWF.out.ok HWF.out.st (m1.starts.length : Int))
              have HW3 := Lib.hid (backM_wf HWF.out (m1.starts.length : Int))
              have HR1 := Lib.hid r1
              have HR2 := Lib.hid r2
              have HR3 := Lib.hid r3
              have HR4 := Lib.hid r4
              have HR6 := Lib.hid r6
              rw [HBM.out] at r5
              have hb1 : m1.lits.length ≤ 120 := by omega
              clear r1 r2 r3 r4 r6 HT5 HKA HKB5 HB HB5
              refine HC.out.mono ?_
              rintro e w8 ⟨A8, c8, rfl, hO8, hT8, hS8⟩
              rw [HR3.out]
              have HKA8 := Lib.hid (HKAr.out.step hS8)
              have HKB8 := Lib.hid (HKBr.out.step hS8)
              have HB8 := Lib.hid (HBr.out.trans (hS8.below HTr.out HBr.out.size))
              have hgl : (goneM m (m1.starts.length : Int)).length = L - m1.lits.length := by rw [HR4.out, List.length_reverse, List.length_drop, HBM.out]
              rw [hgl] at hO8 ⊢
              have HO8 := Lib.hid hO8
              have HT8 := Lib.hid hT8
              clear hO8 hT8 hS8 HC HTr HKAr HKBr HBr
              generalize backM m (m1.starts.length : Int) = m3 at *
              obtain ⟨gn, hgn⟩ : ∃ gn, goneM m (m1.starts.length : Int) = gn := ⟨_, rfl⟩
              rw [hgn] at hgl HO8 HR6 HR4
              have HGL := Lib.hid hgl
              clear hgn hgl
              obtain ⟨d, hd⟩ : ∃ d, L - m1.lits.length = d := ⟨_, rfl⟩
              rw [hd] at HO8 HGL ⊢
              have e1 : IntKind.i64.wrap ((L : Int) - (m1.lits.length : Int)) = (d : Int) := by rw [IntWalk.i64_in _ (by omega)]; omega
              go_wp2_with fail
              refine (lits_any HT8.out HW3.out.ok).mono ?_
              rintro e w9 ⟨A9, c9, rfl, hO9, hb9⟩
              have HC9 := Lib.hid (sameClause_any A9 m3.lits.length c9 m3.lits rfl hO9.rd A m1.lits.length c m1.lits rfl (HKB8.out.below hb9).own.rd (by rw [HR1.out]; omega) (by omega))
              have HT9 := Lib.hid (HT8.out.below hb9)
              have HKA9 := Lib.hid (HKA8.out.below hb9)
              have HO9 := Lib.hid (HO8.out.below hb9)
              have HB9 := Lib.hid (below_then HB8.out hb9 HB8.out.size)
              rw [HR1.out, show (m1.lits == m1.lits) = true by simp] at HC9
              rw [HR1.out]
              clear hO9 hb9 HT8 HKA8 HKB8 HO8 HB8
              go_wp2_with fail
              refine HC9.out.mono ?_
              rintro e w10 ⟨rfl, hb10⟩
              have HT10 := Lib.hid (HT9.out.below hb10)
              have HKA10 := Lib.hid (HKA9.out.below hb10)
              have HO10 := Lib.hid (HO9.out.below hb10)
              have HB10 := Lib.hid (below_then HB9.out hb10 HB9.out.size)
              clear hb10 HC9 HT9 HKA9 HO9 HB9
              have HC10 := Lib.hid (levels_any HT10.out)
              rw [HR2.out] at HC10
              go_wp2_with fail
              refine HC10.out.mono ?_
              rintro e w11 ⟨rfl, rfl⟩
              clear HC10
              go_wp2_with fail
              rename World => w12
              go_loopw [20] (fun i wr => ∃ k : Nat, k ≤ d ∧ i = .int .i64 k ∧ Below w12.heap.size w12 wr) (fun i _ => d - (intOf i).toNat)
              case atStart => exact ⟨0, Nat.zero_le _, rfl, Below.refl _ _⟩
              case round =>
                obtain ⟨k, hk, rfl, hb⟩ := hrel
                have HB := Lib.hid hb
                clear hb
                by_cases hlt : k < d
                · have hkg : k < gn.length := by rw [HGL.out]; exact hlt
                  obtain ⟨bg, eG, hcg⟩ := Own.here HO10.out hkg
                  have hjl : L - 1 - k < m.lits.length := by rw [HBM.out]; omega
                  obtain ⟨ba, eA, hca⟩ := Own.here HKA10.out.own hjl
                  subst eG eA
                  have hbg := World.block_lt_of_cell? w12 _ hcg
                  have hba := World.block_lt_of_cell? w12 _ hca
                  have hx : m.lits[L - 1 - k] = gn[k] := by
                    have h1 := HBM.out
                    have h2 : gn[k]? = some m.lits[L - 1 - k] := by
                      rw [HR4.out, List.getElem?_reverse (by rw [List.length_drop]; omega), List.getElem?_drop, List.length_drop, List.getElem?_eq_some_iff]
                      exact ⟨by omega, by congr 1; omega⟩
                    rw [List.getElem?_eq_getElem hkg] at h2
                    exact (Option.some.inj h2).symm
                  have hx8 := HLB.out _ (List.getElem_mem hjl)
                  rw [hx] at hca hx8
                  have hv := HR6.out _ (List.getElem_mem hkg)
                  generalize gn[k] = x at *
                  have HCG := Lib.hid (fun W' (hb : Below w12.heap.size w12 W') => (hb.cell (p := ⟨bg, k, none⟩) hbg).trans hcg)
                  have HCA := Lib.hid (fun W' (hb : Below w12.heap.size w12 W') => (hb.cell (p := ⟨ba, L - 1 - k, none⟩) hba).trans hca)
                  have HV1 := Lib.hid (fun W' (hb : Below w12.heap.size w12 W') => (show Calls Try.prog 14 #[.pointer (some ⟨g, 0, none⟩), .int .i32 x] W' fun e w' => e = .returned (.int .i64 0) ∧ Below W'.heap.size W' w' from by have := Value_any (HT10.out.below hb) HW3.out.ok x (by omega) (by omega); rwa [hv.1] at this))
                  have HL2 := Lib.hid (fun W' (hb : Below w12.heap.size w12 W') => (show Calls Try.prog 16 #[.pointer (some ⟨g, 0, none⟩), .int .i64 (varI x)] W' fun e w' => e = .returned (.int .i64 (-1)) ∧ Below W'.heap.size W' w' from by have := Level_any (HT10.out.below hb) HW3.out.ok (varI x); rwa [hv.2] at this))
                  have HY3 := Lib.hid (fun W' (hb : Below w12.heap.size w12 W') => (show Calls Try.prog 13 #[.int .i32 x] W' fun e w' => e = .returned (.int .i64 (varI x)) ∧ Below W'.heap.size W' w' from (Var_any x (by omega) (by omega) W').mono fun e w' h => ⟨h.1, by rw [← h.2]; exact Below.refl _ _⟩))
                  clear hcg hca hv hx hkg hjl
                  obtain ⟨j, hj⟩ : ∃ j, L - 1 - k = j := ⟨_, rfl⟩
                  rw [hj] at HCA
                  have e2 : IntKind.i64.wrap ((L : Int) - 1) = (L : Int) - 1 := IntWalk.i64_in _ (by omega)
                  have e3 : IntKind.i64.wrap ((L : Int) - 1 - (k : Int)) = (j : Int) := by rw [IntWalk.i64_in _ (by omega)]; omega
                  have e4 : (j : Int) < (L : Int) := by omega
                  have e5 : (0 : Int) ≤ (j : Int) := by omega
                  go_upto_region 33 with (fail)
                  have P1 : ∀ p : Later wr, p.w'.cell? ⟨bg, k, none⟩ = some (.int .i32 x) := fun p => HCG.out _ (below_then HB.out p.h HB.out.size)
                  have P2 : ∀ p : Later wr, p.w'.cell? ⟨ba, j, none⟩ = some (.int .i32 x) := fun p => HCA.out _ (below_then HB.out p.h HB.out.size)
                  have M1 := Lib.hid (Later.meet (w := wr) fun W' hb => HV1.out W' (below_then HB.out hb HB.out.size))
                  have M2 := Lib.hid (Later.meet (w := wr) fun W' hb => HL2.out W' (below_then HB.out hb HB.out.size))
                  have M3 := Lib.hid (Later.meet (w := wr) fun W' hb => HY3.out W' (below_then HB.out hb HB.out.size))
                  refine wp_region_later (by kernel_rfl) (by kernel_rfl) ?_
                  repeat (go_big_quiet_step (first
                    | (go_at_call 14; exact M1.out _)
                    | (go_at_call 16; exact M2.out _)
                    | (go_at_call 13; exact M3.out _)))
                  refine wpQuiet_nil ?_
                  intro wq hw'
                  obtain ⟨p, hp⟩ := hw'
                  have hq : Below wr.heap.size wr wq := hp ▸ p.h
                  have HBQ := Lib.hid (below_then HB.out hq HB.out.size)
                  clear P1 P2 hq hp p M1 M2 M3
                  go_wp2
                  go_roundw
                  case rel => exact ⟨k + 1, by omega, by go_num, HBQ.out⟩
                  case measure => simp [intOf]; omega
                · have HBE := Lib.hid (below_then HB10.out HB.out HB10.out.size)
                  go_wp2_with fail
                  refine (works_any _).mono ?_
                  rintro e w13 ⟨rfl, hb13⟩
                  have HBF := Lib.hid (below_then HBE.out hb13 HBE.out.size)
                  clear hb13
                  go_wp2
                  go_ret
                  exact ⟨rfl, HBF.out⟩
end Go.Proofs.Ytbbpebfgdcidjaa.Ta
