/- The statement's tells: a queue tells what the document's does. Condition: the memory. -/
import Derived.Test.YtgldhnjbodmbbaaQt
namespace Go.Proofs.Ytgldhnjbodmbbaa.Qu
open Go.RowKit Go.Proofs.Ytgldhnjbodmbbaa.Mem Go.Proofs.Ytgldhnjbodmbbaa.Sl Go.Shelf
open Go.Proofs.Ytgldhnjbodmbbaa.FnL (enc_at below_then)
open Go.Proofs.Ytgldhnjbodmbbaa.Lt (Later wp_region_later)
set_option linter.unusedVariables false

set_option maxRecDepth 100000 in
set_option maxHeartbeats 4000000 in
theorem tells_any {w : World} {B : Nat} {q : QA} {gd : Nat} {d : DR} {m : QM} (h : St w B q gd d m) :
    Calls Try.prog 22 #[.pointer (some ⟨q.g, 0, none⟩), .pointer (some ⟨gd, 0, none⟩)] w fun e w' => e = .returned (.bool true) ∧ Below w.heap.size w w' := by
  have H := Lib.hid h
  have HOR := Lib.hid (qorder_ok h.lq)
  have hN := h.lq.qw.N
  have HLEN := Lib.hid h.lq.qw.len
  have HROW := Lib.hid h.i.row
  clear h
  generalize hMN : m.N = N at *
  have HMN := Lib.hid hMN
  clear hMN
  go_enter Try.func22, Try.ntmps22
  go_wp2_with fail
  refine HOR.out.mono ?_
  rintro e w1 ⟨⟨A, c, rfl, hO⟩, hb1⟩
  rw [HLEN.out] at hO ⊢
  have HO := Lib.hid hO
  have HB1 := Lib.hid hb1
  clear hO hb1 HOR
  go_upto_region 2 with (fail)
  have HP := Lib.hid (fun W (hb : Below w1.heap.size w1 W) => H.out.below (below_then HB1.out hb HB1.out.size))
  have L1 : ∀ p : Later w1, p.w'.cell? ⟨gd, 0, none⟩ = some (.slice d.rA N d.rc) := fun p => by
    have h1 := (HP.out p.w' p.h).r.blk.cell 0
    have h2 : d.row.length = N := by rw [HROW.out, rowI_len]; exact HLEN.out
    rw [h2] at h1
    exact h1
  have M1 := Lib.hid (Later.meet (w := w1) fun W hb => by
    have h2 : d.row = rowI m.row := HROW.out
    have h3 := (HP.out W hb).r.r
    have h4 : d.row.length = N := by rw [h2, rowI_len]; exact HLEN.out
    have h5 := same_any (w := W) A N c (rowI m.row) (by rw [rowI_len]; exact HLEN.out.symm) (HO.out.below hb).rd d.rA N d.rc (rowI m.row) (by rw [rowI_len]; exact HLEN.out.symm) (by rw [← h2]; exact h3.rd) (by omega) (by omega)
    rw [beq_self_eq_true] at h5
    exact h5)
  have hq : ∀ {w : World} {e : Ending} {w' : World} {v : Value}, (e = .returned v ∧ w = w') → e = .returned v ∧ Below w.heap.size w w' := fun h => ⟨h.1, h.2 ▸ Below.refl _ _⟩
  have M2 := Lib.hid (Later.meet (w := w1) (v := .int .i64 (N : Int)) fun W hb => by
    have := qsize_ok (HP.out W hb).lq
    rw [HMN.out] at this
    exact this.mono fun _ _ h => hq h)
  have M3 := Lib.hid (Later.meet (w := w1) (v := .int .i64 0) fun W hb => by
    have := qstamp_ok (HP.out W hb).lq (-1)
    rw [show stampI m.N m.st (-1) = 0 from if_pos (.inl (by decide))] at this
    exact this.mono fun _ _ h => hq h)
  have M4 := Lib.hid (Later.meet (w := w1) (v := .int .i64 0) fun W hb => by
    have := qstamp_ok (HP.out W hb).lq ((N : Int) + 1)
    rw [show stampI m.N m.st ((N : Int) + 1) = 0 from if_pos (.inr (by rw [HMN.out]; omega))] at this
    exact this.mono fun _ _ h => hq h)
  have e1 : IntKind.i64.wrap ((N : Int) + 1) = (N : Int) + 1 := IntWalk.i64_in _ (by omega)
  refine wp_region_later (by kernel_rfl) (by kernel_rfl) ?_
  repeat (go_big_quiet_step (first
    | (go_at_call 17; exact M1.out _)
    | (go_at_call 23; exact M2.out _)
    | (go_at_call 13; first | with_reducible exact M3.out _ | with_reducible exact M4.out _)))
  refine wpQuiet_nil ?_
  intro wq hw'
  obtain ⟨p, hp⟩ := hw'
  have HQ := Lib.hid (show Below w1.heap.size w1 wq from hp ▸ p.h)
  clear L1 hp p e1 M1 M2 M3 M4
  have HOQ := Lib.hid (HO.out.below HQ.out)
  have HBQ := Lib.hid (below_then HB1.out HQ.out HB1.out.size)
  clear HO HP HQ HB1
  go_wp2_with fail
  go_loopw [6] (fun i wr => ∃ (k : Nat) (xs : List Int), k ≤ N ∧ i = .int .i64 k ∧ App.Own wr w.heap.size 3 A N c (LZ xs) ∧ Below w.heap.size w wr) (fun i _ => N - (intOf i).toNat)
  case atStart => exact ⟨0, _, Nat.zero_le _, rfl, HOQ.out, HBQ.out⟩
  case round =>
    clear HOQ HBQ
    obtain ⟨k, xs, hk, rfl, hO, hb⟩ := hrel
    have HO := Lib.hid hO
    have HB := Lib.hid hb
    have hxl : N = xs.length := by have := hO.1; rwa [LZ, List.length_map] at this
    have HXL := Lib.hid hxl
    clear hO hb hxl
    by_cases hlt : k < N
    · obtain ⟨ga, eA, hga, hrow⟩ := HO.out.row (by omega)
      subst eA
      have ck : wr.cell? ⟨ga, k, none⟩ = some (.int .i64 (xs[k]'(by rw [← HXL.out]; exact hlt))) := hrow.cell (by unfold LZ; rw [List.getElem?_map, List.getElem?_eq_getElem (by rw [← HXL.out]; exact hlt)]; rfl)
      have fk : wr.frozen? ⟨ga, k, none⟩ = false := hrow.frozen _
      obtain ⟨x, hx⟩ : ∃ x : Int, wr.cell? ⟨ga, k, none⟩ = some (.int .i64 x) := ⟨_, ck⟩
      have HS := Lib.hid (show App.Own (wr.setCell ⟨ga, k, none⟩ (.int .i64 (-1))) w.heap.size 3 (some ⟨ga, 0, none⟩) N c (LZ (xs.set k (-1))) from by
        have := HO.out.set_ k hlt (.int .i64 (-1))
        unfold LZ at *
        rwa [List.map_set])
      have HBS := Lib.hid (HB.out.setCell (p := ⟨ga, k, none⟩) hga (.int .i64 (-1)))
      clear ck hrow
      go_wp2
      go_roundw
      case rel => exact ⟨k + 1, _, by omega, by go_num, HS.out, HBS.out⟩
      case measure => simp [intOf]; omega
    · have hN2 : k = N := by omega
      clear hN2 HO
      go_wp2_with fail
      go_loopw [7] (fun i wx => ∃ (k : Nat), k ≤ N + 1 ∧ i = .int .i64 k ∧ Below w.heap.size w wx) (fun i _ => N + 1 - (intOf i).toNat)
      case atStart => exact ⟨0, Nat.zero_le _, rfl, HB.out⟩
      case round =>
        clear HB
        obtain ⟨k2, hk2, rfl, hb2⟩ := hrel
        have HB2 := Lib.hid hb2
        have HX := Lib.hid (H.out.below hb2)
        clear hb2
        have c0 : wr.cell? ⟨gd, 0, none⟩ = some (.slice d.rA N d.rc) := by
          have h1 := HX.out.r.blk.cell 0
          have h2 : d.row.length = N := by rw [HROW.out, rowI_len]; exact HLEN.out
          rw [h2] at h1
          exact h1
        by_cases hle : k2 < N + 1
        · have HS1 := Lib.hid (qstamp_ok HX.out.lq (k2 : Int))
          have HS2 := Lib.hid (rstamp_any HX.out.r HX.out.i (k2 : Int))
          have hle2 : (k2 : Int) ≤ (N : Int) := by omega
          generalize stampI m.N m.st (k2 : Int) = x at *
          go_wp2_with fail
          refine HS1.out.mono ?_
          rintro e w2 ⟨rfl, rfl⟩
          go_wp2_with fail
          refine HS2.out.mono ?_
          rintro e w2 ⟨rfl, rfl⟩
          clear HS1 HS2
          go_wp2
          go_roundw
          case rel => exact ⟨k2 + 1, by omega, by go_num, HB2.out⟩
          case measure => simp [intOf]; omega
        · have hle2 : ¬ (k2 : Int) ≤ (N : Int) := by omega
          go_wp2
          go_ret
          exact ⟨rfl, HB2.out⟩
end Go.Proofs.Ytgldhnjbodmbbaa.Qu
