/- ArenaFinds: the walk. Conditions: each slice at most 1048576 long. -/
import Derived.Test.YtenadnmglhghiaaAs
import Derived.Deep.CutBlock
import Derived.Deep.DeepCutAuto
namespace Go.Proofs.Ytenadnmglhghiaa.Ar
open Go.RowKit Go.Proofs.Ytenadnmglhghiaa.Mem Go.Proofs.Ytenadnmglhghiaa.Sl Go.Shelf Go.Proofs.Ytenadnmglhghiaa.Cl
open Go.Proofs.Ytenadnmglhghiaa.FnL (enc_at below_then)
open Go.Proofs.Ytenadnmglhghiaa.Lt (Later wp_region_later)
set_option linter.unusedVariables false

def lsOf (cs : List CV) : List (List Int) := cs.map CV.l
theorem lsOf_len (cs : List CV) : (lsOf cs).length = cs.length := by simp [lsOf]
theorem lsOf_at {cs : List CV} {k : Nat} (h : k < cs.length) : (lsOf cs)[k]'(by rw [lsOf_len]; exact h) = cs[k].l := by simp [lsOf]
def clAt (cs : List CV) (k : Nat) : CV := (cs[k]?).getD ⟨none, 0, 0, []⟩
theorem clAt_is {cs : List CV} {k : Nat} (h : k < cs.length) : clAt cs k = cs[k] := by unfold clAt; rw [List.getElem?_eq_getElem h]; rfl
theorem Cls.at_ {B : Nat} {w : World} {A : Option Addr} {n : Nat} {cs : List CV} (h : Cls B w A n cs) {k : Nat} (hk : k < n) : ∃ b off, A = some ⟨b, off, none⟩ ∧ b < B ∧ w.cell? ⟨b, off + k, none⟩ = some (.slice (clAt cs k).A (clAt cs k).n (clAt cs k).c) ∧ ClOk B w (clAt cs k) ∧ (clAt cs k).n ≤ 1048576 := by
  have hkl : k < cs.length := by rw [← h.ln]; exact hk
  obtain ⟨b, off, e, hb, hc⟩ := h.rd (by rw [List.length_map]; omega)
  have := h.all _ (List.getElem_mem hkl)
  rw [clAt_is hkl]
  exact ⟨b, off, e, hb, hc k _ (by rw [List.getElem?_map, List.getElem?_eq_getElem hkl]; rfl), this.1, this.2⟩
set_option maxRecDepth 100000 in
set_option maxHeartbeats 8000000 in
theorem finds_walk {w : World} (A : Option Addr) (n c : Nat) (cs : List CV) (hcs : Cls w.heap.size w A n cs) (KA : Option Addr) (kn kc : Nat) (ks : List Bool) (hks : RdB w.heap.size w KA (ks.map Value.bool)) (hkn : kn = ks.length) (hkm : kn ≤ 1048576) (ev : Int) (hev : inI ev) :
    Calls Try.prog 3 #[.slice A n c, .slice KA kn kc, .int .i64 ev] w fun e w' => e = .returned (.bool true) ∧ Below w.heap.size w w' := by
  have HCS := Lib.hid hcs
  have HKS := Lib.hid hks
  have HKN := Lib.hid hkn
  have HEV := Lib.hid hev
  have hn := hcs.mx
  have HLN := Lib.hid hcs.ln
  have HW := Lib.hid (fun W => works_any W)
  have HCL := Lib.hid (fun W (hb : Below w.heap.size w W) k (hk : k < n) => (hcs.below hb).at_ hk)
  clear hcs hks hkn hev
  go_enter Try.func3, Try.ntmps3
  go_wp2_with fail
  go_loopw [7, 8] (fun s i wr => ∃ (k : Nat) (x : Int), k ≤ n ∧ k ≤ 61 ∧ i = .int .i64 k ∧ s = .int .i64 x ∧ (∀ j, j < k → hasL (clAt cs j).l 0 = false) ∧ w = wr) (fun _ i _ => n - (intOf i).toNat)
  case atStart => exact ⟨0, 0, Nat.zero_le _, Nat.zero_le _, rfl, rfl, fun j hj => by omega, rfl⟩
  case round =>
    obtain ⟨k, x, hk, hk2, rfl, rfl, hnz, rfl⟩ := hrel
    have HNZ := Lib.hid hnz
    clear hnz
    by_cases hlt : k < n
    · by_cases h60 : k ≤ 60
      · obtain ⟨bt, ot, eA, hbt, hc0, hok, hln⟩ := HCL.out w (Below.refl _ _) k hlt
        have HOK := Lib.hid hok
        have HCK := Lib.hid (show clAt cs k = clAt cs k from rfl)
        have HNX := Lib.hid (fun (h : hasL (clAt cs k).l 0 = false) => show ∀ j, j < k + 1 → hasL (clAt cs j).l 0 = false from fun j hj => by
          by_cases e : j = k
          · rw [e]; exact h
          · exact HNZ.out j (by omega))
        obtain ⟨cv, hcv⟩ : ∃ cv, clAt cs k = cv := ⟨_, rfl⟩
        rw [hcv] at hc0 HOK hln HNX
        obtain ⟨cA, cn, cc, cl⟩ := cv
        have HL := Lib.hid HOK.out.ln
        dsimp only at hc0 hln HL HNX
        subst eA
        clear hok hcv HCK
        go_wp2_with fail
        go_loopw [9] (fun i wr => ∃ m : Nat, m ≤ cn ∧ i = .int .i64 m ∧ hasL (cl.take m) 0 = false ∧ w = wr) (fun i _ => cn - (intOf i).toNat)
        case atStart => exact ⟨0, Nat.zero_le _, rfl, rfl, rfl⟩
        case round =>
          obtain ⟨m, hm, rfl, hf, rfl⟩ := hrel
          have HF := Lib.hid hf
          clear hf
          by_cases hml : m < cn
          · have hmk : m < cl.length := by rw [← HL.out]; exact hml
            obtain ⟨b2, o2, e2, _, hc2⟩ := RdV.at_ (HOK.out.rd.rd (Nat.le_refl _)) (enc_at (enc := Value.int .i32) hmk)
            have HNO := Lib.hid (show cl[m] ≠ 0 → hasL (cl.take (m + 1)) 0 = false from fun h => by
              have h2 := HF.out
              unfold hasL at h2 ⊢
              rw [List.take_succ_eq_append_getElem hmk]
              simp only [List.contains_eq_mem, decide_eq_false_iff_not, List.mem_append, List.mem_singleton, not_or] at *
              exact ⟨h2, fun e => h e.symm⟩)
            generalize cl[m]'hmk = y at *
            have e2 : cA = some ⟨b2, o2, none⟩ := e2
            subst e2
            clear hmk
            by_cases hy : y = 0
            · subst hy
              clear HNO
              go_wp2_with fail
              refine (HW.out _).mono ?_
              rintro e w2 ⟨rfl, hb2⟩
              have HB2 := Lib.hid hb2
              clear hb2
              go_wp2
              go_ret
              exact ⟨rfl, HB2.out⟩
            · have HE := Lib.hid (HNO.out hy)
              have hy' : (y == 0) = false := by simpa using hy
              clear HNO
              go_wp2
              go_roundw
              case rel => exact ⟨m + 1, by omega, by go_num, HE.out, trivial⟩
              case measure => simp [intOf]; omega
          · have HE := Lib.hid (HNX.out (by have := HF.out; rwa [List.take_of_length_le (by rw [← HL.out]; omega)] at this))
            go_wp2
            go_roundw
            case rel => exact ⟨k + 1, _, by omega, by omega, by go_num, rfl, HE.out, trivial⟩
            case measure => simp [intOf]; omega
      · have hbig : (60 : Int) < (n : Int) := by omega
        go_wp2
        go_ret
        exact ⟨rfl, Below.refl _ _⟩
    · have HZ := Lib.hid (show ∀ j, j < n → hasL (clAt cs j).l 0 = false from fun j hj => HNZ.out j (by omega))
      clear HNZ
      by_cases hbig : (60 : Int) < (n : Int)
      · go_wp2
        go_ret
        exact ⟨rfl, Below.refl _ _⟩
      by_cases hbx : (600 : Int) < x
      · go_wp2
        go_ret
        exact ⟨rfl, Below.refl _ _⟩
      have hn60 : n ≤ 60 := by omega
      have HN := Lib.hid (show Calls Try.prog 8 #[.int .i64 268435456] w fun e w' => ∃ q, e = .returned (.pointer (some ⟨q.g, 0, none⟩)) ∧ AR w' w.heap.size q 268435456 [] ∧ Below w.heap.size w w' from new_any 268435456 (by unfold inI; omega) w)
      go_wp2_with fail
      refine HN.out.mono ?_
      rintro e w1 ⟨q0, rfl, hq, hb⟩
      obtain ⟨ls, hls⟩ : ∃ ls, ls = lsOf cs := ⟨_, rfl⟩
      have HLS := Lib.hid hls
      have hlsn : ls.length = n := by rw [hls, lsOf_len, HLN.out]
      have HLL := Lib.hid hlsn
      have HF0 := Lib.hid (show FS w w1 ls q0.g 0 [] q0 none 0 none 0 [] from ⟨hq, rfl, ⟨rfl, fun k h => by cases h⟩, Nat.le_refl _, Nat.le_refl _, App.Own.nil _ _ _, App.Own.nil _ _ _, hb⟩)
      clear hq hb HN hls hlsn hlt hk hk2 hbx
      obtain ⟨g, hg⟩ : ∃ g, q0.g = g := ⟨_, rfl⟩
      rw [hg] at HF0 ⊢
      clear hg
      go_wp2_with fail
      go_loopw [11, 12, 13] (fun r d i wr => ∃ (k : Nat) (its : List Itm) (q : AAd) (RA : Option Addr) (rc : Nat) (DA : Option Addr) (dc : Nat) (ids : List Nat), k ≤ n ∧ i = .int .i64 k ∧ r = .slice RA ids.length rc ∧ d = .slice DA ids.length dc ∧ FS w wr ls g k its q RA rc DA dc ids) (fun _ _ i _ => n - (intOf i).toNat)
      case atStart => exact ⟨0, [], q0, none, 0, none, 0, [], Nat.zero_le _, rfl, rfl, rfl, HF0.out⟩
      case round =>
        clear HF0
        obtain ⟨k, its, q, RA, rc, DA, dc, ids, hk, rfl, rfl, rfl, hfs⟩ := hrel
        have HFS := Lib.hid hfs
        have hnl := hfs.nl
        have hsw := hfs.sw
        have hgq := hfs.g
        clear hfs
        by_cases hlt : k < n
        · obtain ⟨bt, ot, eA, hbt, hc0, hok, hln⟩ := HCL.out wr HFS.out.b k hlt
          have hkl : k < ls.length := by rw [HLL.out]; exact hlt
          have hlk : ls[k] = (clAt cs k).l := by
            have h1 : k < cs.length := by rw [← HLN.out]; exact hlt
            rw [clAt_is h1, ← lsOf_at h1]
            have := HLS.out
            subst this
            rfl
          have hz := HZ.out k hlt
          have hlen : (ls[k]).length ≤ 1048576 := by rw [hlk, ← hok.ln]; exact hln
          have hpm : putM its 268435456 ((k : Int) * 8589934592 + 1) (clAt cs k).l (decide (k % 2 = 0)) k = (((sumw its : Nat) : Int), (0 : Int), its ++ [⟨4 + (clAt cs k).l.length, (k : Int) * 8589934592 + 1, (clAt cs k).l, decide (k % 2 = 0), k, 0, false⟩]) := by
            unfold putM
            rw [if_neg (by omega), if_neg (by rw [hz]; decide), if_neg (by rw [hlk] at hlen; omega)]
          have HP := Lib.hid ((put_any HFS.out.ar HFS.out.b.size ((k : Int) * 8589934592 + 1) (by unfold inI; omega) (clAt cs k).A (clAt cs k).n (clAt cs k).c (clAt cs k).l hok.ln (hok.rd.rd HFS.out.b.size) (fun h0 b off e hq => by
            have := HFS.out.ar.lo hq
            obtain ⟨b', o', e', hb', _⟩ := hok.rd (by rw [List.length_map, ← hok.ln]; exact h0)
            rw [e'] at e; injection e with e; injection e with e _
            omega) hok.lb (by omega) (decide (k % 2 = 0)) k (by unfold inI; omega)).mono (R' := fun (en : Ending) (w3 : World) => en = .returned (.tuple #[.int .i64 (sumw its : Nat), .int .i64 0]) ∧ ∃ q2 : AAd, q2.g = q.g ∧ AR w3 w.heap.size q2 268435456 (its ++ [⟨4 + (clAt cs k).l.length, (k : Int) * 8589934592 + 1, (clAt cs k).l, decide (k % 2 = 0), k, 0, false⟩]) ∧ Mod (mq q) wr w3) fun en w3 ⟨h1, ⟨q2, h2, h3, _⟩, h4⟩ => by
            rw [hpm] at h1 h3
            exact ⟨h1, q2, h2, h3, h4⟩)
          have hisc : IsC ls ⟨4 + (clAt cs k).l.length, (k : Int) * 8589934592 + 1, (clAt cs k).l, decide (k % 2 = 0), k, 0, false⟩ k := ⟨hkl, rfl, hlk.symm, rfl⟩
          have hwd : (4 + (clAt cs k).l.length) = 4 + (ls[k]).length := by rw [hlk]
          obtain ⟨x2, hx2⟩ : ∃ x2 : Itm, x2 = ⟨4 + (clAt cs k).l.length, (k : Int) * 8589934592 + 1, (clAt cs k).l, decide (k % 2 = 0), k, 0, false⟩ := ⟨_, rfl⟩
          have HX := Lib.hid (show x2.wd = 4 + (ls[k]).length ∧ x2.dead = false ∧ IsC ls x2 k from by rw [hx2]; exact ⟨hwd, rfl, hisc⟩)
          rw [← hx2] at HP
          have hred : ∃ red, decide (k % 2 = 0) = red ∧ ((k : Int).tmod 2 == 0) = red ∧ ((k : Int) % 2 == 0) = red := by
            refine ⟨decide (k % 2 = 0), rfl, ?_, ?_⟩
            · rw [Int.tmod_eq_emod_of_nonneg (by omega), Bool.eq_iff_iff, beq_iff_eq, decide_eq_true_eq]; omega
            · rw [Bool.eq_iff_iff, beq_iff_eq, decide_eq_true_eq]; omega
          obtain ⟨red, hr0, hr1, hr2⟩ := hred
          rw [hr0] at HP
          subst eA
          have HLEN := Lib.hid hlen

          clear hpm hisc hwd hx2 hr0 hlen hz hok hln hlk
          generalize (clAt cs k).A = cA at *
          generalize (clAt cs k).n = cn at *
          generalize (clAt cs k).c = cc at *
          obtain ⟨s0, hs0⟩ : ∃ s0, sumw its = s0 := ⟨_, rfl⟩
          have HS0 := Lib.hid hs0
          rw [hs0] at HP hsw
          clear hs0
          have e1 : IntKind.i64.wrap ((k : Int) * 8589934592) = (k : Int) * 8589934592 := IntWalk.i64_in _ (by omega)
          have e2 : IntKind.i64.wrap ((k : Int) * 8589934592 + 1) = (k : Int) * 8589934592 + 1 := IntWalk.i64_in _ (by omega)
          rw [hgq] at HP
          have HR1 := Lib.hid hr1
          have HGQ := Lib.hid hgq
          clear hgq
          go_wp2_with fail
          refine HP.out.mono ?_
          rintro e w3 ⟨rfl, q2, hq2, ha3, hm3⟩
          have HM3 := Lib.hid hm3
          have HA3 := Lib.hid ha3
          have HQ2 := Lib.hid hq2
          have HB3 := Lib.hid (show w.heap.size ≤ w3.heap.size from Nat.le_trans HFS.out.b.size hm3.size)
          have hnl1 : ids.length + 1 ≤ 400000000 := by omega
          clear HP hm3 ha3 hq2 e1 e2 hr1 hr2
          obtain ⟨nl, hnlx⟩ : ∃ nl, nl = ids.length := ⟨_, rfl⟩
          have HNL := Lib.hid hnlx
          rw [← hnlx] at hnl hnl1 ⊢
          clear hnlx
          go_upto_region 26 with (first
            | (at_builtin; refine wpAppR rfl _ _ rfl w.heap.size RA nl rc (NZ (refs its)) rfl (by rw [HNL.out]; exact (HFS.out.ro3 HM3.out).alloc _) (some ⟨w3.heap.size, 0, none⟩) 1 1 [((s0 : Nat) : Int)] rfl rfl (new_rd w3 (IZ [((s0 : Nat) : Int)]) _) (fun h => by cases h) hnl1 (by simp; have := HB3.out; omega) (nl + 1) rfl ?_; intro RA2 rc2 w4 hr4 hm4; have HR4 := Lib.hid hr4; have HM4 := Lib.hid hm4; have HB4 := Lib.hid (show w.heap.size ≤ w4.heap.size from Nat.le_trans HB3.out (Nat.le_trans (by simp) hm4.size)); clear hr4 hm4)
            | (at_builtin; refine wpAppI rfl _ _ rfl w.heap.size DA nl dc (NZ ids) rfl (by rw [HNL.out]; exact (HFS.out.dn4 HM3.out HM4.out).alloc _) (some ⟨w4.heap.size, 0, none⟩) 1 1 [(k : Int)] rfl rfl (new_rd w4 (IZ [(k : Int)]) _) (fun h => by cases h) hnl1 (by simp; have := HB4.out; omega) (nl + 1) rfl ?_; intro DA2 dc2 w5 hd5 hm5; have HD5 := Lib.hid hd5; have HM5 := Lib.hid hm5; clear hd5 hm5))
          have HF5 := Lib.hid (show FS w w5 ls g (k + 1) (its ++ [x2]) q2 RA2 rc2 DA2 dc2 (ids ++ [k]) from
            HFS.out.put hkl HLEN.out HX.out (HQ2.out.trans HGQ.out.symm) HA3.out HM3.out (by have := HR4.out; rwa [HNL.out, ← HS0.out] at this) HM4.out (by have := HD5.out; rwa [HNL.out] at this) HM5.out)
          have HL5 := Lib.hid (show nl + 1 = (ids ++ [k]).length from by rw [HNL.out]; simp)
          have hnk : nl + 1 ≤ k + 1 := by omega
          clear HR4 HM4 HD5 HM5 HM3 HA3 HQ2 HB3 HB4 HFS HX hnl1 hnl hsw
          obtain ⟨N, hN⟩ : ∃ N, nl + 1 = N := ⟨_, rfl⟩
          have hN0 : 0 < N := by omega
          have hNk : N ≤ 61 := by omega
          rw [hN] at HL5 hnk ⊢
          clear hN HNL HS0 HLEN hkl
          go_cut [119] from 105 to 119 (fun b wx => ∃ bk, b = .bool bk ∧ w5 = wx)
          case first =>
            by_cases hkk : k < kn
            · have hkl2 : k < ks.length := by rw [← HKN.out]; exact hkk
              obtain ⟨b2, o2, e2, _, hc2⟩ := RdV.at_ ((HKS.out.below HF5.out.b).rd HF5.out.b.size) (enc_at (enc := Value.bool) hkl2)
              generalize ks[k]'hkl2 = kb at *
              subst e2
              clear hkl2
              rcases kb with _ | _
              · go_wp2
                go_meet
                case rel => exact ⟨false, rfl, rfl⟩
              · go_wp2
                go_meet
                case rel => exact ⟨true, rfl, rfl⟩
            · go_wp2
              go_meet
              case rel => exact ⟨false, rfl, rfl⟩
          case rest =>
            obtain ⟨bk, rfl, rfl⟩ := hcut
            go_upto_if 119 with (fail)
            generalize its ++ [x2] = its1 at *
            obtain ⟨ids1, hids⟩ : ∃ ids1, ids ++ [k] = ids1 := ⟨_, rfl⟩
            rw [hids] at HF5 HL5
            clear hids
            go_cut [11, 12, 16, 17, 18] from 120 to 154 (fun r d _ _ _ wx => ∃ (its2 : List Itm) (q3 : AAd) (RA3 : Option Addr) (rc3 : Nat) (DA3 : Option Addr) (dc3 : Nat) (ids2 : List Nat), r = .slice RA3 ids2.length rc3 ∧ d = .slice DA3 ids2.length dc3 ∧ FS w wx ls g (k + 1) its2 q3 RA3 rc3 DA3 dc3 ids2)
            case first =>
              rcases bk with _ | _
              · go_wp2
                go_meet
                case rel => exact ⟨its1, q2, RA2, rc2, DA2, dc2, ids1, by rw [HL5.out], by rw [HL5.out], HF5.out⟩
              · have HPK := Lib.hid (pick_any ev HEV.out.1 HEV.out.2 N (by omega) (by omega) w5)
                have hp := pickI_bd ev (n := (N : Int)) (by omega)
                obtain ⟨p, hpp⟩ : ∃ p : Nat, pickI ev N = p := ⟨(pickI ev N).toNat, by omega⟩
                rw [hpp] at HPK hp
                clear hpp
                have hpN : p < N := by omega
                have hrl : (refs its1).length = N := by rw [HF5.out.fi.rl, HL5.out]
                have hpl : p < (lv its1).length := by rw [lv_len, hrl]; exact hpN
                obtain ⟨hk1, hk2, hk3⟩ := lv_kill HF5.out.ar.ok hpl
                have hrp := refs_lv hpl
                have hplr : p < (refs its1).length := by rw [hrl]; exact hpN
                obtain ⟨rb, eR, hrb, hrr⟩ := HF5.out.ro.row (by rw [← HL5.out]; omega)
                have hcr : w5.cell? ⟨rb, p, none⟩ = some (.int .i64 ((lv its1)[p].1 : Nat)) := hrr.cell (by
                  unfold IZ NZ
                  rw [List.map_map, List.getElem?_map, List.getElem?_eq_getElem hplr, hrp]; rfl)
                have hNr : N ≤ rc2 := by have := hrr.le; unfold IZ at this; rw [List.length_map, NZ_len, hrl] at this; exact this
                obtain ⟨db, eD, hdb, hdr⟩ := HF5.out.dn.row (by rw [← HL5.out]; omega)
                have hNd : N ≤ dc2 := by have := hdr.le; unfold IZ at this; rw [List.length_map, NZ_len, ← HL5.out] at this; exact this
                have hlp := (lv_get HF5.out.ar.ok (List.getElem_mem hpl)).2.2.2
                have hl0 := HF5.out.ar.l0
                have hl1 := HF5.out.ar.l1
                have HK := Lib.hid (kill_any HF5.out.ar ((lv its1)[p].1 : Int) (by unfold inI; omega))
                rw [hk1, HF5.out.g] at HK
                obtain ⟨rp, hrpp⟩ : ∃ rp, (lv its1)[p].1 = rp := ⟨_, rfl⟩
                have HRP := Lib.hid hrpp
                rw [hrpp] at HK hcr
                have HRL := Lib.hid hrl

                clear hk1 hk2 hk3 hrp hplr hrb hrr hdb hdr hlp hrpp hrl
                subst eR eD
                go_wp2_with fail
                refine HPK.out.mono ?_
                rintro e w6 ⟨rfl, rfl⟩
                go_wp2_with fail
                refine HK.out.mono ?_
                rintro e w7 ⟨rfl, ha7, hm7⟩
                have HA7 := Lib.hid ha7
                have HM7 := Lib.hid hm7
                have HR7 := Lib.hid (show App.Own w7 w.heap.size 32 (some ⟨rb, 0, none⟩) N rc2 (IZ (NZ (refs its1))) from by have := HF5.out.ro3 hm7; rwa [← HL5.out] at this)
                have HD7 := Lib.hid (show App.Own w7 w.heap.size 3 (some ⟨db, 0, none⟩) N dc2 (IZ (NZ ids1)) from by have := HF5.out.dn3 hm7; rwa [← HL5.out] at this)
                have HNR := Lib.hid (show (NZ (refs its1)).length = N by rw [NZ_len, HRL.out])
                have HND := Lib.hid (show (NZ ids1).length = N by rw [NZ_len, ← HL5.out])
                have HTR := Lib.hid (show p = ((NZ (refs its1)).take p).length from by rw [List.length_take, HNR.out]; omega)
                have HTD := Lib.hid (show p = ((NZ ids1).take p).length from by rw [List.length_take, HND.out]; omega)
                have k1 : (p : Int) ≤ (rc2 : Int) := by omega
                have k2 : p ≤ rc2 := by omega
                have k3 : (p : Int) ≤ (dc2 : Int) := by omega
                have k4 : p ≤ dc2 := by omega
                have k5 : 0 + p ≤ 400000000 := by omega
                clear ha7 hm7 HK HPK hcr
                go_upto_region 34 with (first
                  | (at_builtin; refine wpAppR rfl _ _ rfl w7.heap.size none 0 0 [] rfl (App.Own.nil _ _ _) (some ⟨rb, 0, none⟩) p rc2 ((NZ (refs its1)).take p) rfl HTR.out (by have := (HR7.out.rd).take p; unfold IZ at this ⊢; rwa [← List.map_take] at this) (fun h => by cases h) k5 (Nat.le_refl _) p (Nat.zero_add _) ?_; intro RA8 rc8 w8 hr8 hm8; have HR8 := Lib.hid hr8; have HB8 := Lib.hid (show Below w7.heap.size w7 w8 from hm8.below (fun i _ e => by cases e) (Nat.le_refl _)); clear hr8 hm8)
                  | (at_builtin; refine wpAppI rfl _ _ rfl w7.heap.size none 0 0 [] rfl (App.Own.nil _ _ _) (some ⟨db, 0, none⟩) p dc2 ((NZ ids1).take p) rfl HTD.out (by have := ((HD7.out.below HB8.out).rd).take p; unfold IZ at this ⊢; rwa [← List.map_take] at this) (fun h => by cases h) k5 HB8.out.size p (Nat.zero_add _) ?_; intro DA8 dc8 w9 hd8 hm9; have HD8 := Lib.hid hd8; have HR9 := Lib.hid (HR8.out.mod hm9 (fun i _ e e2 => by cases e2)); have HB9 := Lib.hid (show Below w7.heap.size w7 w9 from HB8.out.trans (hm9.below (fun i _ e => by cases e) HB8.out.size)); clear hd8 hm9))
                have HDR := Lib.hid (Own.drop_rd (HR7.out.below HB9.out) (p + 1))
                have HLD := Lib.hid (show N - (p + 1) = ((NZ (refs its1)).drop (p + 1)).length from by rw [List.length_drop, HNR.out])
                go_cut [17] from 141 to 146 (fun r wx => ∃ A2 c2, r = .slice A2 (N - 1) c2 ∧ App.Own wx w7.heap.size 32 A2 (N - 1) c2 (IZ ((NZ (refs its1)).take p ++ (NZ (refs its1)).drop (p + 1))) ∧ App.Own wx w7.heap.size 3 DA8 p dc8 (IZ ((NZ ids1).take p)) ∧ Below w7.heap.size w7 wx)
                case first =>
                  have hN1 : p + (N - (p + 1)) = N - 1 := by omega
                  have hN2 : p + (N - (p + 1)) ≤ 400000000 := by omega
                  have k6 : ((p + 1 : Nat) : Int) ≤ (N : Int) := by omega
                  have k7 : p + 1 ≤ N := by omega
                  by_cases hcl : p + 1 = rc2
                  · have hNp : N = p + 1 := by omega
                    have hdn : (NZ (refs its1)).drop (p + 1) = [] := List.eq_nil_of_length_eq_zero (by rw [← HLD.out, hNp]; omega)
                    have HDN := Lib.hid hdn
                    have HE0 := Lib.hid (show N - 1 = p by omega)
                    clear hdn hNp hN1 hN2
                    subst hcl
                    go_wp2_with (at_builtin; refine wpAppR rfl _ _ rfl w7.heap.size RA8 p rc8 ((NZ (refs its1)).take p) rfl HR9.out _ _ _ [] rfl (by first | rfl | (show _ = 0; omega)) (RdV.nil _ _) (fun h => by cases h) (by omega) HB9.out.size p (by first | rfl | omega) ?_; intro RA10 rc10 w10 hr10 hm10; have HR10 := Lib.hid hr10; have HD10 := Lib.hid (HD8.out.mod hm10 (fun i _ e e2 => Own.ne_own HD8.out HR9.out (by decide) e e2)); have HB10 := Lib.hid (HB9.out.trans (hm10.below (fun i _ e => Own.base_le HR9.out i e) HB9.out.size)); clear hr10 hm10)
                    go_meet
                    case rel => exact ⟨RA10, rc10, by rw [HE0.out], by rw [HE0.out, HDN.out]; exact HR10.out, HD10.out, HB10.out⟩
                  · have k8 : p + 1 < rc2 := by omega
                    have k9 : ((p + 1 : Nat) : Int) < (rc2 : Int) := by omega
                    go_wp2_with (at_builtin; refine wpAppR rfl _ _ rfl w7.heap.size RA8 p rc8 ((NZ (refs its1)).take p) rfl HR9.out (some ⟨rb, p + 1, none⟩) (N - (p + 1)) (rc2 - (p + 1)) ((NZ (refs its1)).drop (p + 1)) rfl HLD.out HDR.out (fun h => by cases h) hN2 HB9.out.size (N - 1) hN1 ?_; intro RA10 rc10 w10 hr10 hm10; have HR10 := Lib.hid hr10; have HD10 := Lib.hid (HD8.out.mod hm10 (fun i _ e e2 => Own.ne_own HD8.out HR9.out (by decide) e e2)); have HB10 := Lib.hid (HB9.out.trans (hm10.below (fun i _ e => Own.base_le HR9.out i e) HB9.out.size)); clear hr10 hm10)
                    go_meet
                    case rel => exact ⟨RA10, rc10, rfl, HR10.out, HD10.out, HB10.out⟩
                case rest =>
                  obtain ⟨RA10, rc10, rfl, hr10, hd10, hb10⟩ := hcut
                  obtain ⟨w10, hw10⟩ : ∃ w10, w10 = wc := ⟨_, rfl⟩
                  subst hw10
                  have HR10 := Lib.hid hr10
                  have HD10 := Lib.hid hd10
                  have HB10 := Lib.hid hb10
                  have HDD := Lib.hid (Own.drop_rd (HD7.out.below HB10.out) (p + 1))
                  have HLE := Lib.hid (show N - (p + 1) = ((NZ ids1).drop (p + 1)).length from by rw [List.length_drop, HND.out])
                  clear hr10 hd10 hb10 HDR HLD HR9 HD8 HB9 HB8 HR8
                  go_upto_region 35 with (fail)
                  go_cut [18] from 147 to 152 (fun d wx => ∃ A2 c2, d = .slice A2 (N - 1) c2 ∧ App.Own wx w7.heap.size 3 A2 (N - 1) c2 (IZ ((NZ ids1).take p ++ (NZ ids1).drop (p + 1))) ∧ App.Own wx w7.heap.size 32 RA10 (N - 1) rc10 (IZ ((NZ (refs its1)).take p ++ (NZ (refs its1)).drop (p + 1))) ∧ Below w7.heap.size w7 wx)
                  case first =>
                    have hN1 : p + (N - (p + 1)) = N - 1 := by omega
                    have hN2 : p + (N - (p + 1)) ≤ 400000000 := by omega
                    have k6 : ((p + 1 : Nat) : Int) ≤ (N : Int) := by omega
                    have k7 : p + 1 ≤ N := by omega
                    by_cases hcl : p + 1 = dc2
                    · have hNp : N = p + 1 := by omega
                      have hdn : (NZ ids1).drop (p + 1) = [] := List.eq_nil_of_length_eq_zero (by rw [← HLE.out, hNp]; omega)
                      have HDN := Lib.hid hdn
                      have HE0 := Lib.hid (show N - 1 = p by omega)
                      clear hdn hNp hN1 hN2
                      subst hcl
                      go_wp2_with (at_builtin; refine wpAppI rfl _ _ rfl w7.heap.size DA8 p dc8 ((NZ ids1).take p) rfl HD10.out _ _ _ [] rfl (by first | rfl | (show _ = 0; omega)) (RdV.nil _ _) (fun h => by cases h) (by omega) HB10.out.size p (by first | rfl | omega) ?_; intro DA11 dc11 w11 hd11 hm11; have HD11 := Lib.hid hd11; have HR11 := Lib.hid (HR10.out.mod hm11 (fun i _ e e2 => Own.ne_own HR10.out HD10.out (by decide) e e2)); have HB11 := Lib.hid (HB10.out.trans (hm11.below (fun i _ e => Own.base_le HD10.out i e) HB10.out.size)); clear hd11 hm11)
                      go_meet
                      case rel => exact ⟨DA11, dc11, by rw [HE0.out], by rw [HE0.out, HDN.out]; exact HD11.out, HR11.out, HB11.out⟩
                    · have k8 : p + 1 < dc2 := by omega
                      have k9 : ((p + 1 : Nat) : Int) < (dc2 : Int) := by omega
                      go_wp2_with (at_builtin; refine wpAppI rfl _ _ rfl w7.heap.size DA8 p dc8 ((NZ ids1).take p) rfl HD10.out (some ⟨db, p + 1, none⟩) (N - (p + 1)) (dc2 - (p + 1)) ((NZ ids1).drop (p + 1)) rfl HLE.out HDD.out (fun h => by cases h) hN2 HB10.out.size (N - 1) hN1 ?_; intro DA11 dc11 w11 hd11 hm11; have HD11 := Lib.hid hd11; have HR11 := Lib.hid (HR10.out.mod hm11 (fun i _ e e2 => Own.ne_own HR10.out HD10.out (by decide) e e2)); have HB11 := Lib.hid (HB10.out.trans (hm11.below (fun i _ e => Own.base_le HD10.out i e) HB10.out.size)); clear hd11 hm11)
                      go_meet
                      case rel => exact ⟨DA11, dc11, rfl, HD11.out, HR11.out, HB11.out⟩
                  case rest =>
                    obtain ⟨DA11, dc11, rfl, hd11, hr11, hb11⟩ := hcut
                    have HFK := Lib.hid (show FS w wc ls g (k + 1) (killM its1 ((lv its1)[p].1 : Int)).2 q2 RA10 rc10 DA11 dc11 (ids1.eraseIdx p) from
                      HF5.out.kill hpl (by have := HA7.out; rwa [← HRP.out] at this) HM7.out hb11 (by rw [← HL5.out]; exact hr11) (by rw [← HL5.out]; exact hd11))
                    have HLF := Lib.hid (show N - 1 = (ids1.eraseIdx p).length from by rw [List.length_eraseIdx, if_pos (by rw [← HL5.out]; exact hpN), ← HL5.out])
                    clear hd11 hr11 hb11
                    go_wp2
                    go_meet
                    case rel => exact ⟨_, q2, RA10, rc10, DA11, dc11, _, by rw [HLF.out], by rw [HLF.out], HFK.out⟩
            case rest =>
              obtain ⟨its2, q3, RA3, rc3, DA3, dc3, ids2, rfl, rfl, hfs⟩ := hcut
              obtain ⟨w12, hw12⟩ : ∃ w12, w12 = wc := ⟨_, rfl⟩
              subst hw12
              have HF6 := Lib.hid hfs
              have hgq := hfs.g
              have hM := hfs.nl
              clear hfs HF5 HL5 HGQ HR1 hc0 hN0 hnk hNk
              have HPA := Lib.hid (pick_any (k : Int) (by omega) (by omega) 5 (by omega) (by omega) w12)
              have HPB := Lib.hid (pick_any ev HEV.out.1 HEV.out.2 5 (by omega) (by omega) w12)
              generalize pickI (k : Int) 5 = pa at *
              generalize pickI ev 5 = pb at *
              go_wp2_with fail
              refine HPA.out.mono ?_
              rintro e w13 ⟨rfl, rfl⟩
              go_wp2_with fail
              refine HPB.out.mono ?_
              rintro e w13 ⟨rfl, rfl⟩
              obtain ⟨bb, hbb⟩ : ∃ bb, (pa == pb) = bb := ⟨_, rfl⟩
              rcases bb with _ | _
              · go_wp2
                go_roundw
                case rel => exact ⟨k + 1, its2, q3, RA3, rc3, DA3, dc3, ids2, by omega, by go_num, rfl, rfl, HF6.out⟩
                case measure => simp [intOf]; omega
              · have HCO := Lib.hid (collect_any HF6.out.ar HF6.out.b.size)
                rw [hgq] at HCO
                go_wp2_with fail
                refine HCO.out.mono ?_
                rintro e w14 ⟨⟨MA, mc, rfl, hmv⟩, ⟨q4, hq4, ha4, _⟩, hm4⟩
                have HC0 := Lib.hid (CL.start HF6.out ha4 hm4 hmv)
                have HQ4 := Lib.hid (show q4.g = q3.g from hq4)
                have hrl := HF6.out.fi.rl
                rw [hrl]
                have HRL := Lib.hid hrl
                have HTL := Lib.hid (HF6.out.fi.keep.rl)
                have HND := Lib.hid (show (refs its2).Nodup from (refs_sorted HF6.out.ar.ok).imp fun h => Nat.ne_of_lt h)
                obtain ⟨M, hMM⟩ : ∃ M, ids2.length = M := ⟨_, rfl⟩
                have HM := Lib.hid hMM
                rw [hMM] at hM HRL HTL ⊢
                clear hmv hq4 ha4 hm4 hrl HCO hMM HPA HPB hbb
                go_wp2_with fail
                go_loopw [20] (fun i wr => ∃ t : Nat, t ≤ M ∧ i = .int .i64 t ∧ CL w wr its2 q4 MA mc RA3 rc3 DA3 dc3 ids2 t) (fun i _ => M - (intOf i).toNat)
                case atStart => exact ⟨0, Nat.zero_le _, rfl, HC0.out⟩
                case round =>
                  clear HC0
                  obtain ⟨t, ht, rfl, hcl⟩ := hrel
                  have HCL := Lib.hid hcl
                  clear hcl
                  by_cases htl : t < M
                  · have hM0 : 0 < M := by omega
                    obtain ⟨rb, eR, hrb, hrr⟩ := HCL.out.ro.row (by rw [HM.out]; exact hM0)
                    obtain ⟨mb, eM, hmb, _, hmr⟩ := HCL.out.mv.row (by rw [HM.out]; exact hM0)
                    have htr : t < (refs its2).length := by rw [HRL.out]; exact htl
                    have htt : t < (refs (keep its2)).length := by rw [HTL.out]; exact htl
                    have HCR := Lib.hid (show wr.cell? ⟨rb, t, none⟩ = some (.int .i64 ((refs its2)[t] : Nat)) from hrr.cell (by
                      unfold IZ NZ
                      have hl : ((refs (keep its2)).take t).length = t := by rw [List.length_take]; omega
                      rw [List.map_map, List.getElem?_map, List.getElem?_append_right (by omega), hl, Nat.sub_self, List.getElem?_drop, Nat.add_zero, List.getElem?_eq_getElem htr]; rfl))
                    have HCM := Lib.hid (fun s (hs : s < M) => show wr.cell? ⟨mb, s * 2, none⟩ = some (.int .i64 ((refs its2)[s]'(by rw [HRL.out]; exact hs) : Nat)) ∧ wr.cell? ⟨mb, s * 2 + 1, none⟩ = some (.int .i64 ((refs (keep its2))[s]'(by rw [HTL.out]; exact hs) : Nat)) from by
                      obtain ⟨m1, m2⟩ := mvC_at (refs its2) (refs (keep its2)) s (by rw [HRL.out]; exact hs) (by rw [HTL.out]; exact hs)
                      exact ⟨hmr.cell m1, hmr.cell m2⟩)
                    have hrf := fun i => hrr.frozen i
                    have HRF := Lib.hid hrf
                    subst eR eM
                    have HST := Lib.hid (fun W (hb : Below wr.heap.size wr W) => (HCL.out.below hb).store (by rw [HM.out]; exact htl) htt htr)
                    have hrlt := hrr.lt
                    have hmlt := hmr.lt
                    have HRT := Lib.hid hrlt
                    have HMT := Lib.hid hmlt
                    have hM61 : M ≤ 61 := by omega
                    clear hrb hmb hrr hmr hrf hrlt hmlt
                    obtain ⟨wi, hwi⟩ : ∃ wi, wi = wr := ⟨_, rfl⟩
                    subst hwi
                    go_wp2_with fail
                    go_loopw [21] (fun j wx => ∃ s : Nat, s ≤ t ∧ j = .int .i64 s ∧ Below wi.heap.size wi wx) (fun j _ => t - (intOf j).toNat)
                    case atStart => exact ⟨0, Nat.zero_le _, rfl, Below.refl _ _⟩
                    case round =>
                      obtain ⟨s, hs, rfl, hb⟩ := hrel
                      have HB := Lib.hid hb
                      clear hb
                      have hsM : s < M := by omega
                      have hsr : s < (refs its2).length := by rw [HRL.out]; exact hsM
                      obtain ⟨m1, m2⟩ := HCM.out s hsM
                      have c1 : wr.cell? ⟨mb, s * 2, none⟩ = some (.int .i64 ((refs its2)[s] : Nat)) := (HB.out.cell (p := ⟨mb, s * 2, none⟩) HMT.out).trans m1
                      have c2 : wr.cell? ⟨mb, s * 2 + 1, none⟩ = some (.int .i64 ((refs (keep its2))[s]'(by rw [HTL.out]; exact hsM) : Nat)) := (HB.out.cell (p := ⟨mb, s * 2 + 1, none⟩) HMT.out).trans m2
                      have c3 : wr.cell? ⟨rb, t, none⟩ = some (.int .i64 ((refs its2)[t] : Nat)) := (HB.out.cell (p := ⟨rb, t, none⟩) HRT.out).trans HCR.out
                      clear m1 m2
                      by_cases hst : s = t
                      · subst hst
                        have f3 : wr.frozen? ⟨rb, s, none⟩ = false := by
                          obtain ⟨r2, e2, _, hrr⟩ := (HCL.out.below HB.out).ro.row (by rw [HM.out]; exact hM0)
                          injection e2 with e2
                          injection e2 with e2
                          subst e2
                          exact hrr.frozen s
                        have HS2 := Lib.hid (fun j => HST.out (wr.drewN j) (belowN HB.out j))
                        generalize (refs its2)[s]'htr = v at *
                        generalize (refs (keep its2))[s]'htt = u at *
                        clear hsr
                        go_wp2_with fail
                        go_quiet (fail)
                        go_wp2
                        go_roundw
                        case rel => exact ⟨s + 1, by omega, by go_num, HS2.out _⟩
                        case measure => simp [intOf]; omega
                      · have hne : (((refs its2)[s] : Nat) : Int) ≠ ((refs its2)[t] : Nat) := fun e => hst ((List.getElem_inj HND.out).1 (Int.ofNat.inj e))
                        have hne2 : ((((refs its2)[s] : Nat) : Int) == ((refs its2)[t] : Nat)) = false := beq_eq_false_iff_ne.2 hne
                        generalize (refs its2)[s]'hsr = v at *
                        generalize (refs its2)[t]'htr = u at *
                        clear hne c2
                        go_wp2_with fail
                        go_quiet (fail)
                        go_wp2
                        go_roundw
                        case rel => exact ⟨s + 1, by omega, by go_num, belowN HB.out _⟩
                        case measure => simp [intOf]; omega
                  · have HF7 := Lib.hid (CL.done HF6.out HQ4.out (by have := HCL.out; rwa [show t = ids2.length by rw [HM.out]; omega] at this))
                    have HWD := Lib.hid (words_any HF7.out.ar)
                    rw [keep_waste, HQ4.out, hgq] at HWD
                    clear HCL hgq
                    generalize sumw (keep its2) = sk at *
                    go_wp2_with fail
                    refine HWD.out.mono ?_
                    rintro e w15 ⟨rfl, hb15⟩
                    have HF8 := Lib.hid (HF7.out.below hb15)
                    clear hb15 HWD HF7
                    go_wp2
                    go_roundw
                    case rel => exact ⟨k + 1, keep its2, q4, RA3, rc3, DA3, dc3, ids2, by omega, by go_num, by rw [HM.out], by rw [HM.out], HF8.out⟩
                    case measure => simp [intOf]; omega
        · have hkn : n = k := by omega
          subst hkn
          have hrl := HFS.out.fi.rl
          have hil := HFS.out.fi.1
          have hid60 : ids.length ≤ 60 := by omega
          have HLI := Lib.hid (fun (j : Nat) (hj : j < ids.length) (hjr : j < (refs its).length) (hjl : j < (lv its).length) => show ids[j] < n ∧ (get its (((refs its)[j] : Nat) : Int)).id = (ids[j] : Int) * 8589934592 + 1 ∧ (get its (((refs its)[j] : Nat) : Int)).l = (clAt cs ids[j]).l ∧ (get its (((refs its)[j] : Nat) : Int)).red = decide (ids[j] % 2 = 0) ∧ sumL its (j + 1) = sumL its j + (4 + (clAt cs ids[j]).l.length) ∧ (refs its)[j] ≤ 268435456 from by
            obtain ⟨h1, h2, h3, h4⟩ := HFS.out.fi.2 j hjl hj
            have h5 := lv_get HFS.out.ar.ok (List.getElem_mem hjl)
            rw [refs_lv hjl] at h5
            have h6 : ids[j] < cs.length := by rw [← HLN.out, ← HLL.out]; exact h1
            have h7 : ls[ids[j]] = (clAt cs ids[j]).l := by
              rw [clAt_is h6, ← lsOf_at h6]
              have := HLS.out
              subst this
              rfl
            have h8 := HFS.out.ar.l0
            have h9 := HFS.out.ar.l1
            rw [h5.1]
            refine ⟨by rw [← HLL.out]; exact h1, h2, by rw [h3, h7], h4, by rw [sumL_next hjl, h3, h7], ?_⟩
            have := h5.2.2.2
            omega)
          have HTOT := Lib.hid (show ((sumw its : Nat) : Int) - ((waste its : Nat) : Int) = ((sumL its ids.length : Nat) : Int) from by
            have := sumL_all (t := ids.length) HFS.out.ar.ok (by rw [hil]; exact Nat.le_refl _)
            omega)
          have HRL := Lib.hid hrl
          have HIL := Lib.hid hil
          clear hlt hsw hrl hil
          obtain ⟨wf, hwf⟩ : ∃ wf, wf = wr := ⟨_, rfl⟩
          subst hwf
          have hgq2 := hgq
          go_wp2_with fail
          go_loopw [24, 25] (fun s i wx => ∃ t : Nat, t ≤ ids.length ∧ i = .int .i64 t ∧ s = .int .i64 (sumL its t : Nat) ∧ Below wf.heap.size wf wx) (fun _ i _ => ids.length - (intOf i).toNat)
          case atStart => exact ⟨0, Nat.zero_le _, rfl, rfl, Below.refl _ _⟩
          case round =>
            obtain ⟨t, ht, rfl, rfl, hb⟩ := hrel
            have HB := Lib.hid hb
            clear hb
            by_cases htl : t < ids.length
            · have htr : t < (refs its).length := by rw [HRL.out]; exact htl
              have htv : t < (lv its).length := by rw [← HIL.out]; exact htl
              obtain ⟨g1, g2, g3, g4, g5, g6⟩ := HLI.out t htl htr htv
              obtain ⟨rb, eR, _, hrr⟩ := (HFS.out.below HB.out).ro.row (by omega)
              obtain ⟨db, eD, _, hdr⟩ := (HFS.out.below HB.out).dn.row (by omega)
              have hcr : wr.cell? ⟨rb, t, none⟩ = some (.int .i64 ((refs its)[t] : Nat)) := hrr.cell (by
                unfold IZ NZ
                rw [List.map_map, List.getElem?_map, List.getElem?_eq_getElem htr]; rfl)
              have hcd : wr.cell? ⟨db, t, none⟩ = some (.int .i64 (ids[t] : Nat)) := hdr.cell (by
                unfold IZ NZ
                rw [List.map_map, List.getElem?_map, List.getElem?_eq_getElem htl]; rfl)
              have hrlt := hrr.lt
              have hdlt := hdr.lt
              obtain ⟨bt, ot, eA, hbt, hcl, hok, hln⟩ := HCL.out wr (HFS.out.below HB.out).b ids[t] g1
              subst eR eD eA
              have HC := Lib.hid (fun W (hb : Below wr.heap.size wr W) => show W.cell? ⟨rb, t, none⟩ = some (.int .i64 ((refs its)[t] : Nat)) ∧ W.cell? ⟨db, t, none⟩ = some (.int .i64 (ids[t] : Nat)) ∧ W.cell? ⟨bt, ot + ids[t], none⟩ = some (.slice (clAt cs ids[t]).A (clAt cs ids[t]).n (clAt cs ids[t]).c) from
                ⟨(hb.cell (p := ⟨rb, t, none⟩) hrlt).trans hcr, (hb.cell (p := ⟨db, t, none⟩) hdlt).trans hcd, (hb.cell (p := ⟨bt, ot + ids[t], none⟩) (by have := (HFS.out.below HB.out).b.size; show bt < _; omega)).trans hcl⟩)
              have HAR := Lib.hid (fun W (hb : Below wr.heap.size wr W) => (HFS.out.ar.below HB.out).below hb)
              have hri : inI (((refs its)[t] : Nat) : Int) := by unfold inI; omega
              have HLIT := Lib.hid (fun W (hb : Below wr.heap.size wr W) => show Calls Try.prog 15 #[.pointer (some ⟨q.g, 0, none⟩), .int .i64 (((refs its)[t] : Nat) : Int)] W fun e w' => (∃ A c, e = .returned (.slice A (clAt cs ids[t]).n c) ∧ App.Own w' W.heap.size 26 A (clAt cs ids[t]).n c (LI (clAt cs ids[t]).l)) ∧ Below W.heap.size W w' from
                (lits_any (HAR.out W hb) (((refs its)[t] : Nat) : Int) hri).mono fun e w' h => by
                  rw [g3] at h
                  obtain ⟨⟨A, c, h1, h2⟩, h3⟩ := h
                  rw [← hok.ln] at h1 h2
                  exact ⟨⟨A, c, h1, h2⟩, h3⟩)
              have HIDC := Lib.hid (fun W (hb : Below wr.heap.size wr W) => id_any (HAR.out W hb) (((refs its)[t] : Nat) : Int) hri)
              have HREC := Lib.hid (fun W (hb : Below wr.heap.size wr W) => red_any (HAR.out W hb) (((refs its)[t] : Nat) : Int) hri)
              rw [g2] at HIDC
              rw [g4] at HREC
              rw [hgq] at HLIT HIDC HREC
              rw [← hok.ln] at g5
              have HOK := Lib.hid hok
              have HSC := Lib.hid (fun W (hb : Below wr.heap.size wr W) (A4 : Option Addr) (c4 : Nat) (hO : RdV W A4 (LI (clAt cs ids[t]).l)) => show Calls Try.prog 14 #[.slice A4 (clAt cs ids[t]).n c4, .slice (clAt cs ids[t]).A (clAt cs ids[t]).n (clAt cs ids[t]).c] W fun e w' => e = .returned (.bool true) ∧ Below W.heap.size W w' from by
                have h1 := HOK.out
                have hB := (HFS.out.below HB.out).b
                have := sameClause_any (w := W) A4 (clAt cs ids[t]).n c4 (clAt cs ids[t]).l h1.ln hO (clAt cs ids[t]).A (clAt cs ids[t]).n (clAt cs ids[t]).c (clAt cs ids[t]).l h1.ln (((h1.rd.below ((Below.refl w.heap.size wr).trans (hb.mono hB.size)))).rd (Nat.le_trans hB.size hb.size)) hln hln
                rw [beq_self_eq_true] at this
                exact this)
              have hred : ∃ red, decide (ids[t] % 2 = 0) = red ∧ ((ids[t] : Int).tmod 2 == 0) = red ∧ ((ids[t] : Int) % 2 == 0) = red := by
                refine ⟨decide (ids[t] % 2 = 0), rfl, ?_, ?_⟩
                · rw [Int.tmod_eq_emod_of_nonneg (by omega), Bool.eq_iff_iff, beq_iff_eq, decide_eq_true_eq]; omega
                · rw [Bool.eq_iff_iff, beq_iff_eq, decide_eq_true_eq]; omega
              obtain ⟨red, hr0, hr1, hr2⟩ := hred
              rw [hr0] at HREC
              obtain ⟨sn, hsn⟩ : ∃ sn, sumL its t = sn := ⟨_, rfl⟩
              have HSN := Lib.hid hsn
              rw [hsn] at g5 ⊢
              have HG5 := Lib.hid g5
              have hsn2 : sn + 4 + (clAt cs ids[t]).n ≤ 1000000000 := by
                have h1 := HTOT.out
                have h2 : sumL its t ≤ 268435456 := by
                  have h3 := sum_live HFS.out.ar.ok
                  have h8 := HFS.out.ar.l0
                  have h9 := HFS.out.ar.l1
                  have h4 : sumL its t ≤ ((lv its).map fun p => 4 + p.2.l.length).sum := by
                    unfold sumL
                    conv => rhs; rw [← List.take_append_drop t (lv its), List.map_append, List.sum_append]
                    omega
                  omega
                omega
              obtain ⟨k0, k1, k2⟩ := HC.out wr (Below.refl _ _)
              have HLL4 := Lib.hid (show (clAt cs ids[t]).n = (clAt cs ids[t]).l.length from hok.ln)
              clear hok g2 g3 g4 g5 hr0 hsn hcr hcd hcl hri hgq2
              generalize (refs its)[t]'htr = r at *
              generalize hidt : ids[t]'htl = id at *
              have hid1 : id < n := g1
              clear hidt
              generalize (clAt cs id).A = cA at *
              generalize (clAt cs id).n = cn at *
              generalize (clAt cs id).c = cc at *
              have e1 : IntKind.i64.wrap ((id : Int) * 8589934592) = (id : Int) * 8589934592 := IntWalk.i64_in _ (by omega)
              have e2 : IntKind.i64.wrap ((id : Int) * 8589934592 + 1) = (id : Int) * 8589934592 + 1 := IntWalk.i64_in _ (by omega)
              go_wp2_with fail
              go_region_held3 (fun w' => w'.cell? ⟨rb, t, none⟩ = some (.int .i64 (r : Nat)) ∧ w'.cell? ⟨db, t, none⟩ = some (.int .i64 (id : Nat)) ∧ w'.cell? ⟨bt, ot + id, none⟩ = some (.slice cA cn cc)) (first | exact ⟨k0, k1, k2⟩ | exact y1 | exact y2 | exact y3)
                (first
                  | (go_at_call 15
                     refine (HLIT.out wr.drew (Below.refl _ _).drew).mono ?_
                     rintro e w4 ⟨⟨A4, c4, rfl, hO4⟩, hb4⟩
                     have HB4 := Lib.hid (show Below wr.heap.size wr w4 from (Below.refl _ _).drew.trans hb4)
                     have y1 := HC.out w4 HB4.out
                     have HO4 := Lib.hid hO4.rd
                     clear hO4 hb4)
                  | (go_at_call 14
                     refine (HSC.out w4 HB4.out A4 c4 HO4.out).mono ?_
                     rintro e w5 ⟨rfl, hb5⟩
                     have HB5 := Lib.hid (below_then HB4.out hb5 HB4.out.size)
                     have y2 := HC.out w5 HB5.out
                     clear hb5)
                  | (go_at_call 16
                     refine (HIDC.out w5 HB5.out).mono ?_
                     rintro e w6 ⟨rfl, hb6⟩
                     have HB6 := Lib.hid (below_then HB5.out hb6 HB5.out.size)
                     have y3 := HC.out w6 HB6.out
                     clear hb6)
                  | (go_at_call 17
                     refine (HREC.out w6 HB6.out).mono ?_
                     rintro e w7 ⟨rfl, rfl⟩))
              have HB7 := Lib.hid (below_then HB.out HB6.out HB.out.size)
              clear HC HLIT HIDC HREC HSC HB4 HB5 HB6 HO4 y1 y2 y3 k0 k1 k2 HAR
              go_wp2
              go_roundw
              case rel => exact ⟨t + 1, by omega, by go_num, by rw [HG5.out]; go_num, HB7.out⟩
              case measure => simp [intOf]; omega
            · obtain rfl : t = ids.length := by omega
              have HAR := Lib.hid (HFS.out.ar.below HB.out)
              have HWD := Lib.hid (words_any HAR.out)
              rw [hgq] at HWD
              have HRF := Lib.hid (fun W (hb : Below wr.heap.size wr W) => show Calls Try.prog 18 #[.pointer (some ⟨q.g, 0, none⟩)] W fun e w' => (∃ A c, e = .returned (.slice A ids.length c)) ∧ Below W.heap.size W w' from
                (refs_any (HAR.out.below hb)).mono fun e w' h => by
                  obtain ⟨⟨A, c, h1, h2⟩, h3⟩ := h
                  rw [HRL.out] at h1
                  exact ⟨⟨A, c, h1⟩, h3⟩)
              rw [hgq] at HRF
              have htot := HTOT.out
              have hsb : (sumw its : Int) ≤ 268435456 := HFS.out.ar.l1
              have hwb := waste_le HFS.out.ar.ok
              have HB0 := Lib.hid (below_then HFS.out.b HB.out HFS.out.b.size)
              clear hgq HLI HTOT hgq2 ht htl
              generalize sumw its = sa at *
              generalize waste its = sb at *
              generalize sumL its ids.length = sc at *
              have e1 : IntKind.i64.wrap ((sa : Int) - sb) = (sc : Int) := by rw [IntWalk.i64_in _ (by omega)]; exact htot
              clear htot
              go_wp2_with fail
              refine HWD.out.mono ?_
              rintro e w4 ⟨rfl, hb4⟩
              have HB4 := Lib.hid hb4
              clear hb4 HWD
              go_wp2_with fail
              refine (HRF.out w4 HB4.out).mono ?_
              rintro e w5 ⟨⟨A5, c5, rfl⟩, hb5⟩
              have HB5 := Lib.hid (below_then HB4.out hb5 HB4.out.size)
              clear hb5
              go_wp2_with fail
              refine (HW.out _).mono ?_
              rintro e w6 ⟨rfl, hb6⟩
              have HB6 := Lib.hid (below_then HB5.out hb6 HB5.out.size)
              clear hb6
              go_wp2
              go_ret
              exact ⟨rfl, below_then HB0.out HB6.out HB0.out.size⟩
end Go.Proofs.Ytenadnmglhghiaa.Ar
