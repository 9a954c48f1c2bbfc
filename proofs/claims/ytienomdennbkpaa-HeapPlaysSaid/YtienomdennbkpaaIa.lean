/- The statement's tells: a heap tells what the document's does. Conditions: the memory. -/
import Derived.Test.YtienomdennbkpaaHz
namespace Go.Proofs.Ytienomdennbkpaa.He
open Go.RowKit Go.Proofs.Ytienomdennbkpaa.Mem Go.Proofs.Ytienomdennbkpaa.Sl Go.Shelf
open Go.Proofs.Ytienomdennbkpaa.FnL (enc_at below_then)
open Go.Proofs.Ytienomdennbkpaa.Lt (Later wp_region_later)
set_option linter.unusedVariables false

set_option maxRecDepth 100000 in
set_option maxHeartbeats 4000000 in
theorem tells_any {w : World} {B N : Nat} {q : HA} {d : DA} {m : HM} {l : List Int} (h : St w B N q d m l) (k v y : Int) :
    Calls Try.prog 26 #[.pointer (some ⟨q.g, 0, none⟩), .pointer (some ⟨d.g, 0, none⟩), .agg #[.int .u8 k, .int .i64 v, .int .i64 y]] w fun e w' => e = .returned (.bool true) ∧ Below w.heap.size w w' := by
  obtain ⟨W, hW⟩ : ∃ W, W = w.alloc (.cells #[.int .u8 k, .int .i64 v, .int .i64 y] 44) := ⟨_, rfl⟩
  have hbk : Blk W w.heap.size 44 #[.int .u8 k, .int .i64 v, .int .i64 y] := by rw [hW]; exact Blk.new _ _ _
  have hbw : Below w.heap.size w W := by rw [hW]; exact (Below.refl _ _).alloc (Nat.le_refl _) _
  have HBW := Lib.hid hbw
  have HW := Lib.hid hW
  have H := Lib.hid (h.below hbw)
  have HBK := Lib.hid hbk
  obtain ⟨n, hn⟩ : ∃ n, n = l.length := ⟨_, rfl⟩
  have HN := Lib.hid hn
  have hl : n ≤ N := by rw [hn]; exact h.r.lenN
  have hNb := h.r.hN
  have HT1 := Lib.hid (top_any H.out.h.hr)
  rw [H.out.h.top h.o, ← h.o.1.length_eq] at HT1
  have HT2 := Lib.hid (dtop_any H.out.r)
  have HOR := Lib.hid (show Calls Try.prog 12 #[.pointer (some ⟨q.g, 0, none⟩)] W (OrdR W n l) from (order_any H.out.h.hr).mono fun e w' ⟨⟨A, c, l', k1, k2, k3⟩, k4⟩ => by
    have e1 : m.l.length = n := by rw [hn]; exact h.o.1.symm.length_eq
    have e2 := Ord.uniq k3 h.o (List.Perm.refl _)
    rw [e1] at k1 k2
    rw [e2] at k2
    exact ⟨⟨A, c, k1, k2⟩, k4⟩)
  rw [← hn] at HT1 HT2
  clear hW hbw h hbk hn
  generalize l.getD 0 0 = x0 at *
  go_enter Try.func26, Try.ntmps26
  go_upto_region 1 with (fail)
  rw [← HW.out]
  clear HW
  go_wp2_with fail
  refine HT1.out.mono ?_
  rintro e w1 ⟨rfl, rfl⟩
  go_wp2_with fail
  refine HT2.out.mono ?_
  rintro e w1 ⟨rfl, rfl⟩
  go_wp2_with fail
  refine HOR.out.mono ?_
  rintro e w1 ⟨⟨A1, c1, rfl, hO⟩, hb1⟩
  have HO := Lib.hid hO
  have HB1 := Lib.hid hb1
  clear hO hb1 HOR HT1 HT2
  go_upto_region 4 with (fail)
  have HP := Lib.hid (fun W' (hb : Below w1.heap.size w1 W') => H.out.below (below_then HB1.out hb HB1.out.size))
  have L1 : ∀ p : Later w1, p.w'.cell? ⟨d.g, 1, none⟩ = some (.slice d.lA n d.lc) := fun p => by
    have h1 := (HP.out p.w' p.h).r.blk.cell 1
    rw [HN.out]
    exact h1
  have L2 : ∀ p : Later w1, p.w'.cell? ⟨w.heap.size, 1, none⟩ = some (.int .i64 v) := fun p => (HBK.out.below (below_then HB1.out p.h HB1.out.size)).cell 1
  have M1 := Lib.hid (Later.meet (w := w1) (v := .bool true) fun W' hb => by
    have h5 := same_any (w := W') A1 n c1 l HN.out (HO.out.below hb).rd d.lA n d.lc l HN.out (HP.out W' hb).r.lr.rd (by omega) (by omega)
    rwa [beq_self_eq_true] at h5)
  have hq : ∀ {w : World} {e : Ending} {w' : World} {v : Value}, (e = .returned v ∧ w = w') → e = .returned v ∧ Below w.heap.size w w' := fun h => ⟨h.1, h.2 ▸ Below.refl _ _⟩
  have M2 := Lib.hid (Later.meet (w := w1) (v := .int .i64 (n : Int)) fun W' hb => by
    have := size_any (HP.out W' hb).h.hr
    rw [show m.l.length = n by rw [HN.out]; exact H.out.o.1.symm.length_eq] at this
    exact this.mono fun _ _ h => hq h)
  obtain ⟨bv1, hbv⟩ : ∃ b : Bool, b = decide (v ∈ l) := ⟨_, rfl⟩
  obtain ⟨sv, hsv⟩ : ∃ s : Int, s = scI N m.s v := ⟨_, rfl⟩
  have M3 := Lib.hid (Later.meet (w := w1) (v := .bool bv1) fun W' hb => by
    have := has_any (HP.out W' hb).h.hr v
    rw [decide_eq_decide.2 (H.out.o.1.symm.mem_iff (a := v)), ← hbv] at this
    exact this.mono fun _ _ h => hq h)
  have M4 := Lib.hid (Later.meet (w := w1) (v := .bool bv1) fun W' hb => by
    have := dhas_any (HP.out W' hb).r v
    rw [← hbv] at this
    exact this.mono fun _ _ h => hq h)
  have M5 := Lib.hid (Later.meet (w := w1) (v := .int .i64 sv) fun W' hb => by
    have := score_any (HP.out W' hb).h.hr v
    rw [← hsv] at this
    exact this.mono fun _ _ h => hq h)
  have M6 := Lib.hid (Later.meet (w := w1) (v := .int .i64 sv) fun W' hb => by
    have := dscore_any (HP.out W' hb).r v
    rw [← hsv] at this
    exact this.mono fun _ _ h => hq h)
  clear hbv hsv
  refine wp_region_later (by kernel_rfl) (by kernel_rfl) ?_
  repeat (go_big_quiet_step (first
    | (go_at_call 13; exact M1.out _)
    | (go_at_call 19; exact M2.out _)
    | (go_at_call 18; exact M3.out _)
    | (go_at_call 46; exact M4.out _)
    | (go_at_call 16; exact M5.out _)
    | (go_at_call 47; exact M6.out _)))
  refine wpQuiet_nil ?_
  intro wq hw'
  obtain ⟨p, hp⟩ := hw'
  have HQ := Lib.hid (show Below w1.heap.size w1 wq from hp ▸ p.h)
  clear L1 L2 hp p M1 M2 M3 M4 M5 M6
  have HOQ := Lib.hid (HO.out.below HQ.out)
  have HBQ := Lib.hid (below_then HB1.out HQ.out HB1.out.size)
  clear HO HP HQ
  go_wp2_with fail
  go_loopw [12] (fun i wr => ∃ (j : Nat) (xs : List Int), j ≤ n ∧ i = .int .i64 j ∧ App.Own wr W.heap.size 3 A1 n c1 (LZ xs) ∧ Below W.heap.size W wr) (fun i _ => n - (intOf i).toNat)
  case atStart => exact ⟨0, _, Nat.zero_le _, rfl, HOQ.out, HBQ.out⟩
  case round =>
    clear HOQ HBQ
    obtain ⟨j, xs, hj, rfl, hO, hb⟩ := hrel
    have HO := Lib.hid hO
    have HB := Lib.hid hb
    have hxl : n = xs.length := by have := hO.1; rwa [LZ_len] at this
    have HXL := Lib.hid hxl
    clear hO hb hxl
    by_cases hlt : j < n
    · obtain ⟨ga, rfl, hga, hrow⟩ := HO.out.row (by omega)
      obtain ⟨x, ck⟩ : ∃ x : Int, wr.cell? ⟨ga, j, none⟩ = some (.int .i64 x) := ⟨_, hrow.cell (LZ_at (l := xs) (i := j) (by rw [← HXL.out]; exact hlt))⟩
      have fk : wr.frozen? ⟨ga, j, none⟩ = false := hrow.frozen _
      have HS := Lib.hid (show App.Own (wr.setCell ⟨ga, j, none⟩ (.int .i64 (-1))) W.heap.size 3 (some ⟨ga, 0, none⟩) n c1 (LZ (xs.set j (-1))) from by
        have := HO.out.set_ j hlt (.int .i64 (-1))
        rwa [LZ_set] at this)
      have HBS := Lib.hid (HB.out.setCell (p := ⟨ga, j, none⟩) hga (.int .i64 (-1)))
      have hlt1 : (j : Int) < (n : Int) := by omega
      clear hrow
      go_wp2
      go_roundw
      case rel => exact ⟨j + 1, _, by omega, by go_num, HS.out, HBS.out⟩
      case measure => simp [intOf]; omega
    · have hlt1 : ¬ (j : Int) < (n : Int) := by omega
      clear HO
      go_wp2_with fail
      go_loopw [13] (fun i wx => ∃ (t : Nat), t ≤ N + 1 ∧ i = .int .i64 t ∧ Below W.heap.size W wx) (fun i _ => N + 1 - (intOf i).toNat)
      case atStart => exact ⟨0, Nat.zero_le _, rfl, HB.out⟩
      case round =>
        clear HB
        obtain ⟨t, ht, rfl, hb2⟩ := hrel
        have HB2 := Lib.hid hb2
        have HX := Lib.hid (H.out.below hb2)
        have c0 : wr.cell? ⟨d.g, 0, none⟩ = some (.slice (some ⟨d.s, 0, none⟩) (N + 1) d.sc) := HX.out.r.blk.cell 0
        clear hb2
        by_cases hle : t < N + 1
        · have HS1 := Lib.hid (score_any HX.out.h.hr (t : Int))
          have HS2 := Lib.hid (dscore_any HX.out.r (t : Int))
          have hle2 : (t : Int) < (N : Int) + 1 := by omega
          generalize scI N m.s (t : Int) = x at *
          go_wp2_with fail
          refine HS1.out.mono ?_
          rintro e w2 ⟨rfl, rfl⟩
          go_wp2_with fail
          refine HS2.out.mono ?_
          rintro e w2 ⟨rfl, rfl⟩
          clear HS1 HS2
          go_wp2
          go_roundw
          case rel => exact ⟨t + 1, by omega, by go_num, HB2.out⟩
          case measure => simp [intOf]; omega
        · have hle2 : ¬ (t : Int) < (N : Int) + 1 := by omega
          have HFIN := Lib.hid (below_then HBW.out HB2.out HBW.out.size)
          go_wp2
          go_ret
          exact ⟨rfl, HFIN.out⟩
end Go.Proofs.Ytienomdennbkpaa.He
