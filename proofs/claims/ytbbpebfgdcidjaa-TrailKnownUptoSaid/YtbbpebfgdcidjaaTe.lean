/- Trail: Back to a level below: what it answers and leaves. Conditions: the bounds TOk, no empty level on top, the memory. -/
import Derived.Test.YtbbpebfgdcidjaaTd
import Derived.Test.YtbbpebfgdcidjaaKo
namespace Go.Proofs.Ytbbpebfgdcidjaa.Ta
open Go.RowKit Go.Proofs.Ytbbpebfgdcidjaa.Mem Go.Proofs.Ytbbpebfgdcidjaa.Sl Go.Proofs.Ytbbpebfgdcidjaa.Cl Go.Proofs.Ytbbpebfgdcidjaa.App Go.Shelf
open Go.Proofs.Ytbbpebfgdcidjaa.FnL (enc_at below_then)
open Go.Proofs.Ytbbpebfgdcidjaa.Ko (wp_region_k wpAnyK wpAnyK_take wpAnyS_take wpAnyK_one wpAnyK_done wpOp_skip)
set_option linter.unusedVariables false
set_option linter.unusedSimpArgs false
attribute [local go_sem] Oper.semAt_some

set_option maxRecDepth 100000 in
set_option maxHeartbeats 4000000 in
theorem back_yes {base g : Nat} {m : TM} {q : TQ} {w : World} (h : TrS w base g m q) (ok : TOk m) (hst : ∀ n, n ∈ m.starts → n < m.lits.length) (lv : Nat) (hlv : lv < m.starts.length) :
    Calls Try.prog 17 #[.pointer (some ⟨g, 0, none⟩), .int .i64 (lv : Int)] w fun e w' => BackR w base g m q (lv : Int) e w' := by
  obtain ⟨n, hn⟩ : ∃ n, m.starts.getD lv 0 = n := ⟨_, rfl⟩
  have hnl : n < m.lits.length := by
    rw [← hn]; refine hst _ ?_
    rw [List.getD_eq_getElem?_getD, List.getElem?_eq_getElem hlv]; exact List.getElem_mem hlv
  obtain ⟨gl, hlA, hgl, hrow⟩ := h.lits.row (by omega)
  obtain ⟨gt, htA, hgt, hrowt⟩ := h.starts.row (by omega)
  have hlc : m.lits.length ≤ q.lc := by have := hrow.le; simpa [LI] using this
  have hlm : q.lc ≤ 9223372036854775807 := by
    obtain ⟨_, ⟨e, _⟩ | ⟨_, _, _, h3, _⟩⟩ := h.lits
    · rw [hlA] at e; cases e
    · unfold maxLen at h3; exact h3
  have htc : m.starts.length ≤ q.tc := by have := hrowt.le; simpa [LN] using this
  have htm : q.tc ≤ 9223372036854775807 := by
    obtain ⟨_, ⟨e, _⟩ | ⟨_, _, _, h3, _⟩⟩ := h.starts
    · rw [htA] at e; cases e
    · unfold maxLen at h3; exact h3
  have HBR := Lib.hid (show goneM m (lv : Int) = (m.lits.drop n).reverse ∧ backM m (lv : Int) = backS m lv ∧ backE m (lv : Int) = 0 from by
    refine ⟨?_, ?_, ?_⟩
    · unfold goneM; rw [if_pos (by omega), Int.toNat_natCast, hn]
    · unfold backM; rw [if_pos (by omega), Int.toNat_natCast]
    · unfold backE; rw [if_neg (by omega)])
  have hN := ok.N
  have hln := ok.ln
  have hsn := ok.sn
  have hhd := ok.hd
  have HLB := Lib.hid ok.lb
  have H := Lib.hid h
  have HN := Lib.hid hn
  have hne_gl : gl ≠ q.gs := fun e => h.nl.2 (by rw [hlA, e])
  have hcn : w.cell? ⟨gt, lv, none⟩ = some (.int .i64 (n : Int)) := by
    have := hrowt.cell (k := lv) (v := .int .i64 (n : Int)) (by rw [← hn]; simp [LN, hlv])
    exact this
  have HCN := Lib.hid hcn
  have HROW := Lib.hid hrow
  obtain ⟨W0, hW0⟩ : ∃ W0, W0 = w.alloc (.cells #[.pointer (some ⟨g, 0, none⟩)] 24) := ⟨_, rfl⟩
  have HB0 := Lib.hid (show Below w.heap.size w W0 from hW0 ▸ (Below.refl _ _).alloc (Nat.le_refl _) _)
  have HS0 := Lib.hid (show W0.heap.size = w.heap.size + 1 by rw [hW0]; simp)
  have HK0 := Lib.hid (show Blk W0 w.heap.size 24 #[.pointer (some ⟨g, 0, none⟩)] from hW0 ▸ Blk.new w _ _)
  have HA := Lib.hid (h.below HB0.out)
  have HW0 := Lib.hid hW0
  have HGT := Lib.hid (show gt < w.heap.size from hrowt.lt)
  have HGL := Lib.hid (show gl < w.heap.size from hrow.lt)
  have q0 : W0.cell? ⟨g, 0, none⟩ = some (.slice (some ⟨gl, 0, none⟩) m.lits.length q.lc) := by rw [← hlA]; exact HA.out.blk.cell 0
  have q2 : W0.cell? ⟨g, 2, none⟩ = some (.slice (some ⟨gt, 0, none⟩) m.starts.length q.tc) := by rw [← htA]; exact HA.out.blk.cell 2
  have k0 : W0.cell? ⟨w.heap.size, 0, none⟩ = some (.pointer (some ⟨g, 0, none⟩)) := HK0.out.cell 0
  have k1 : W0.cell? ⟨gt, lv, none⟩ = some (.int .i64 (n : Int)) := (HB0.out.cell (p := ⟨gt, lv, none⟩) (by show gt < _; exact HGT.out)).trans hcn
  have HLA := Lib.hid hlA
  have HTA := Lib.hid htA
  clear h ok hst hrow hrowt hn hW0 hcn hlA htA hgl hgt
  have hx1 : ¬ (lv : Int) < 0 := by omega
  have hx2 : ¬ ((m.starts.length : Nat) : Int) < (lv : Int) := by omega
  have hx3 : (((lv : Nat) : Int) == ((m.starts.length : Nat) : Int)) = false := beq_eq_false_iff_ne.2 (by omega)
  have hx4 : (lv : Int) < ((m.starts.length : Nat) : Int) := by omega
  generalize hsl : m.starts.length = sn at *
  generalize hll : m.lits.length = L at *
  have HSL := Lib.hid hsl
  have HLL := Lib.hid hll
  clear hsl hll
  refine (callsIn_wide (n := 6)).1 ?_
  refine callsIn_of_wp_marks Try.func17 rfl trivial ?_ rfl
  refine wpIn_wide.2 ?_
  simp only [Try.ntmps17, List.size_toArray, List.length_cons, List.length_nil, Nat.reduceAdd, Nat.reduceSub, Array.replicate_succ, Array.replicate_zero, List.push_toArray, List.append_toArray, List.nil_append, List.cons_append]
  go_upto_region 1 with (fail)
  rw [← HW0.out]
  have hW0s := HS0.out
  go_upto_region 10 with (fail)
  obtain ⟨W1, hW1⟩ : ∃ W1, W1 = W0.alloc (.cells #[.slice none 0 0] 36) := ⟨_, rfl⟩
  rw [← hW1]
  have HB1 := Lib.hid (show Below W0.heap.size W0 W1 from hW1 ▸ (Below.refl _ _).alloc (Nat.le_refl _) _)
  have HS1 := Lib.hid (show W1.heap.size = w.heap.size + 2 by rw [hW1]; simp; omega)
  have HK1 := Lib.hid (show Blk W1 (w.heap.size + 1) 36 #[.slice none 0 0] from by rw [hW1, ← HS0.out]; exact Blk.new W0 _ _)
  clear hW1 q0 q2 k0 k1
  have q0 : W1.cell? ⟨g, 0, none⟩ = some (.slice (some ⟨gl, 0, none⟩) L q.lc) := by rw [← HLA.out, ← HLL.out]; exact (HA.out.below HB1.out).blk.cell 0
  have k0 : W1.cell? ⟨w.heap.size, 0, none⟩ = some (.pointer (some ⟨g, 0, none⟩)) := (HK0.out.below HB1.out).cell 0
  have hnc : ¬ n = q.lc := by omega
  have hx5 : (n : Int) ≤ (L : Int) := by omega
  go_wp2_with fail
  refine (backward_any _ _ _ _).mono ?_
  rintro e w3 ⟨rfl, rfl⟩
  go_wp2_with fail
  obtain ⟨W5, hW5⟩ : ∃ W5, W5 = W1.alloc (.cells #[.slice (some ⟨gl, n, none⟩) (L - n) (q.lc - n)] 36) := ⟨_, rfl⟩
  rw [← hW5]
  have HB5 := Lib.hid (show Below W1.heap.size W1 W5 from hW5 ▸ (Below.refl _ _).alloc (Nat.le_refl _) _)
  have HS5 := Lib.hid (show W5.heap.size = w.heap.size + 3 by rw [hW5]; have := HS1.out; simp; omega)
  have HK5 := Lib.hid (show W5.cell? ⟨w.heap.size + 2, 0, none⟩ = some (.slice (some ⟨gl, n, none⟩) (L - n) (q.lc - n)) by rw [hW5, ← HS1.out]; simp)
  have HG5 := Lib.hid (HK1.out.below HB5.out)
  have HT5 := Lib.hid ((HK0.out.below HB1.out).below HB5.out)
  have HBW := Lib.hid (below_then (below_then HB0.out HB1.out HB0.out.size) HB5.out (Nat.le_trans HB0.out.size HB1.out.size))
  have HA5 := Lib.hid (H.out.below HBW.out)
  have HSP := Lib.hid HA5.out.spots
  rw [HS1.out]
  clear hW5 q0 k0
  obtain ⟨S, hS⟩ : ∃ S : Nat → Prop, S = fun i => i = q.gs ∨ i = w.heap.size + 1 ∨ W5.heap.size ≤ i := ⟨_, rfl⟩
  have HSD := Lib.hid hS
  have hgsw := H.out.spots.lt
  have hgw := H.out.blk.lt
  have HGSW := Lib.hid hgsw
  have HGW := Lib.hid hgw
  have HNS := Lib.hid (fun (i : Nat) (h1 : i < w.heap.size + 3) (h2 : i ≠ q.gs) (h3 : i ≠ w.heap.size + 1) => (show ¬ S i from by
    rw [hS]; rintro (e | e | e)
    · exact h2 e
    · exact h3 e
    · have := HS5.out; omega))
  have HDL := Lib.hid (show (m.lits.drop n).length = L - n by rw [List.length_drop, HLL.out])
  have HRS := Lib.hid (show RdS S W5 (some ⟨gl, n, none⟩) (LI (m.lits.drop n)) from fun _ => by
    refine ⟨gl, n, rfl, HNS.out gl (by have := HGL.out; omega) hne_gl (by have := HGL.out; omega), by have := HGL.out; have := HS5.out; omega, fun i v hi => ?_⟩
    rw [LI, List.map_drop, List.getElem?_drop] at hi
    exact (HBW.out.cell (p := ⟨gl, n + i, none⟩) HGL.out).trans (HROW.out.cell hi))
  have HSEQ := Lib.hid (back_stops (some ⟨gl, n, none⟩) (L - n) (q.lc - n) (m.lits.drop n) HDL.out.symm (by omega) S (w.heap.size + 2) W5 HRS.out (by have := HS5.out; omega) (HNS.out _ (by omega) (by omega) (by omega)) HK5.out 5 (by omega))
  obtain ⟨i0, hi0⟩ := Option.isSome_iff_exists.1 (show (Try.prog.info? 30).isSome = true by kernel_rfl)
  have hz : (Try.prog.info? 30).map (fun i => (i.zero, i.size, i.bytes)) = some (some (.int .i32 0), 1, 4) := by kernel_rfl
  rw [hi0] at hz
  injection hz with hz
  injection hz with hz0 hz
  injection hz with hz1 hz2
  have HI0 := Lib.hid hi0
  have HZ0 := Lib.hid hz0
  have HZ1 := Lib.hid hz1
  have HZ2 := Lib.hid hz2
  clear hi0 hz0 hz1 hz2 hS
  refine (wpIn_wide (n := 6)).1 ?_
  refine wpIn_rangeFunc_ownH rfl (by omega) (gf := 51) (lb := #[.pointer (some ⟨w.heap.size + 2, 0, none⟩)]) rfl trivial (enters_of Try.func51 (by kernel_rfl) rfl)
    HSEQ.out (fun h k => Mod.then_ h k) (fun W l o o' h1 h2 h3 h4 => by have := kpS_put (gs := q.gs) (b1 := w.heap.size + 1) W l o o' h1 h2 h3 h4; rw [HSD.out]; exact this) (Below.refl _ _) (fun _ => rfl)
    (fun pre W => BI W5.heap.size (w.heap.size + 1) q.gs m.N m.sp W5 (pre.map Subtype.val) W)
    (fun _ _ _ => False)
    BI.ownFrom
    (fun _ _ _ _ _ hs _ _ => hs)
    ⟨⟨none, 0, HG5.out, App.Own.nil _ _ _⟩, HSP.out, Mod.refl _ _⟩
    (fun x a' W => a' = { tmps := #[.pointer (some ⟨g, 0, none⟩), .int .i64 lv, .pointer (some ⟨w.heap.size, 0, none⟩), undef, .slice none 0 0, .int .i64 0, .int .i64 n, .pointer (some ⟨w.heap.size + 1, 0, none⟩), .int .i32 x.1, .bool false, .pointer (some ⟨g, 0, none⟩), .bool false, .bool false, .int .i64 lv, .bool false, .int .i64 lv, .pointer (some ⟨g, 0, none⟩), .pointer (some ⟨g, 0, none⟩), .pointer (some ⟨g, 2, none⟩), .slice (some ⟨gt, 0, none⟩) sn q.tc, .int .i64 sn, .bool false, .bool false, .int .i64 lv, .pointer (some ⟨g, 0, none⟩), .pointer (some ⟨g, 0, none⟩), .pointer (some ⟨g, 2, none⟩), .slice (some ⟨gt, 0, none⟩) sn q.tc, .int .i64 sn, .bool false, .pointer (some ⟨g, 0, none⟩), .pointer (some ⟨g, 0, none⟩), .pointer (some ⟨g, 2, none⟩), .slice (some ⟨gt, 0, none⟩) sn q.tc, .int .i64 lv, .pointer (some ⟨gt, lv, none⟩), .int .i64 n, .pointer (some ⟨g, 0, none⟩), .pointer (some ⟨g, 0, none⟩), .pointer (some ⟨g, 0, none⟩), .slice (some ⟨gl, 0, none⟩) L q.lc, .int .i64 n, .slice (some ⟨gl, n, none⟩) (L - n) (q.lc - n), .func (.func 51) #[] #[.pointer (some ⟨w.heap.size + 2, 0, none⟩)], .int .i32 x.1, undef, undef, undef, undef, undef, undef, undef, undef, undef, undef, undef, undef, undef, undef, undef, undef, undef, undef, undef, undef, undef, undef, undef, undef, undef, undef, undef, undef, undef, undef, undef, undef, undef, undef, undef, undef, undef, undef, undef, undef], defers := [] })
    (fun x a' _ X Y row hs hg hr => hs)
    ?assign ?body ?done ?stop
  case assign =>
    rintro l pre ⟨x, hx⟩ W K hi hK
    have HI := Lib.hid hi
    have HK := Lib.hid hK
    clear hi hK
    dsimp only
    gi_wp2
    exact HK.out _ _ (KeepsFrom.refl _ _) (Mod.refl _ _) HI.out rfl
  case body =>
    rintro l pre ⟨x, hx⟩ a' W hl hr hi rfl hlt2
    dsimp only
    obtain ⟨⟨A, c, hb1, hown⟩, hsp, hmd⟩ := hi
    have HXL := Lib.hid (HLB.out x (List.mem_of_mem_drop hx))
    have HMD := Lib.hid hmd
    have hsz := hmd.size
    have HMS := Lib.hid (fun (i : Nat) (h1 : i < w.heap.size + 3) (h2 : i ≠ q.gs) (h3 : i ≠ w.heap.size + 1) => (show ¬ (i = q.gs ∨ i = w.heap.size + 1 ∨ W5.heap.size ≤ i) from by
      have := HS5.out; omega))
    have HKT := Lib.hid (HT5.out.mod hmd (HMS.out _ (by omega) (by have := HGSW.out; omega) (by omega)))
    have HKG := Lib.hid (HA5.out.blk.mod hmd (HMS.out g (by have := HGW.out; omega) H.out.ng (by have := HGW.out; omega)))
    obtain ⟨k, hk⟩ : ∃ k, (pre.map Subtype.val).length = k := ⟨_, rfl⟩
    have hkb : k ≤ 1000000 := by
      have : pre.length < (m.lits.drop n).length := hlt2
      rw [HDL.out] at this
      simp at hk; omega
    have HPV := Lib.hid (show (pre ++ [(⟨x, hx⟩ : In (m.lits.drop n))]).map Subtype.val = pre.map Subtype.val ++ [x] by simp)
    obtain ⟨ps, hps⟩ : ∃ ps, pre.map Subtype.val = ps := ⟨_, rfl⟩
    rw [hps] at HPV hk hb1 hown hsp
    rw [hk] at hb1 hown
    have HKK := Lib.hid hk
    have HBI := Lib.hid (show BI W5.heap.size (w.heap.size + 1) q.gs m.N m.sp W5 ps W from ⟨⟨A, c, by rw [hk]; exact hb1, by rw [hk]; exact hown⟩, hsp, hmd⟩)
    have HOWN := Lib.hid hown
    have HSPP := Lib.hid hsp
    have HBB := Lib.hid hb1
    have g0 : W.cell? ⟨w.heap.size + 1, 0, none⟩ = some (.slice A k c) := hb1.cell 0
    have HSZ := Lib.hid hsz
    have hb1lt := hb1.lt
    clear hr hps hk hl hsp hmd hlt2 hb1 hown
    have HAL := Lib.hid (show Below W.heap.size W (W.alloc (.cells #[.int .i32 x] 30)) from (Below.refl _ _).alloc (Nat.le_refl _) _)
    have HAF := Lib.hid (fun (v' : Value) (w2 : World) (ho : w2.ownsRow W5.heap.size 30 1 v' (k + 1) (LI ps ++ [.int .i32 x])) (hg : (W.alloc (.cells #[.int .i32 x] 30)).grownBy w2 (Value.slice A k c).ownBlock) =>
      (show ∃ A' c', v' = .slice A' (k + 1) c' ∧ App.Own w2 W5.heap.size 30 A' (k + 1) c' (LI (ps ++ [x])) ∧ Mem.Mod (fun i => A = some ⟨i, 0, none⟩) W w2 from by
        obtain ⟨A', c', e, hO⟩ := App.Own.of ho
        exact ⟨A', c', e, by rw [LI, List.map_append]; exact hO, (Mem.Mod.none_ HAL.out _).then_ ((Mem.Mod.grown hg).mono fun i _ e => own_mine e (Own.plain HOWN.out))⟩))
    have hWl : W5.heap.size ≤ (W.alloc (.cells #[.int .i32 x] 30)).heap.size := by simp; omega
    gi_wp2_with (gi_at_builtin; refine wpListIn_append_own _ rfl _ _ 36 rfl W5.heap.size 30 i0 (.int .i32 0) 1 4 Try.underlying36 HI0.out HZ0.out HZ1.out HZ2.out rfl (by decide) (.slice A k c) k (LI ps) rfl (HOWN.out.alloc _).own ⟨W.heap.size, 0, none⟩ 1 1 [.int .i32 x] rfl rfl (cell_one_new _ _ _) (by simp [Value.oneCell']) (by unfold maxLen; omega) (by omega) hWl ?_; intro v' w2 hown' hgrow _; obtain ⟨A', c', rfl, hO2, hM2⟩ := HAF.out v' w2 hown' hgrow; have HO2 := Lib.hid hO2; have HM2 := Lib.hid hM2; have HB2 := Lib.hid (HBB.out.mod hM2 (fun e => Own.ne_blk HOWN.out HBB.out (by decide) e)); clear hown' hgrow hO2 hM2; have g1 : w2.cell? ⟨w.heap.size + 1, 0, none⟩ = some (.slice A k c) := HB2.out.cell 0; have f1 : w2.frozen? ⟨w.heap.size + 1, 0, none⟩ = false := HB2.out.frozen 0)
    obtain ⟨W4, hW4⟩ : ∃ W4, W4 = w2.setCell ⟨w.heap.size + 1, 0, none⟩ (.slice A' (k + 1) c') := ⟨_, rfl⟩
    rw [← hW4]
    have HM4 := Lib.hid (show Mem.Mod (fun i => i = w.heap.size + 1) w2 W4 from hW4 ▸ Mem.Mod.setCell (Mem.Mod.refl (fun i => i = w.heap.size + 1) _) (p := ⟨w.heap.size + 1, 0, none⟩) (.inl rfl) _)
    have HAn : ∀ i, A = some ⟨i, 0, none⟩ → W5.heap.size ≤ i := fun i e => by
      obtain ⟨_, ⟨e1, _⟩ | ⟨j, e1, h1, _⟩⟩ := HOWN.out
      · rw [e1] at e; cases e
      · rw [e1] at e; cases e; exact h1
    have HMW := Lib.hid (show Mem.Mod (fun i => i = w.heap.size + 1 ∨ A = some ⟨i, 0, none⟩) W W4 from (HM2.out.mono fun i _ e => .inr e).then_ (HM4.out.mono fun i _ e => .inl e))
    have HFAR := Lib.hid (fun (i : Nat) (h1 : i < w.heap.size + 3) (h3 : i ≠ w.heap.size + 1) => (show ¬ (i = w.heap.size + 1 ∨ A = some ⟨i, 0, none⟩) from by
      rintro (e | e)
      · exact h3 e
      · have := HAn i e; have := HS5.out; omega))
    have HO4 := Lib.hid (HO2.out.mod HM4.out (fun i h1 _ e => by have := HS5.out; omega))
    have HB4 := Lib.hid (show Blk W4 (w.heap.size + 1) 36 #[.slice A' (k + 1) c'] by
      have := HB2.out.set_ 0 (.slice A' (k + 1) c')
      rw [hW4]; simpa using this)
    have HSP4 := Lib.hid (HSPP.out.mod HMW.out (HFAR.out q.gs (by have := HGSW.out; omega) (by have := HGSW.out; omega)))
    have t0 : W4.cell? ⟨w.heap.size, 0, none⟩ = some (.pointer (some ⟨g, 0, none⟩)) := (HKT.out.mod HMW.out (HFAR.out _ (by omega) (by omega))).cell 0
    have t1 : W4.cell? ⟨g, 1, none⟩ = some (.slice (some ⟨q.gs, 0, none⟩) (m.N + 1) (m.N + 1)) := (HKG.out.mod HMW.out (HFAR.out _ (by have := HGW.out; omega) (by have := HGW.out; omega))).cell 1
    have hxl := HXL.out
    have HC := Lib.hid (Var_any x hxl.1.1 hxl.1.2)
    have HSN := Lib.hid (clr_snoc m.sp ps x)
    obtain ⟨vn, hvn⟩ : ∃ vn : Nat, varI x = vn := ⟨(varI x).toNat, by omega⟩
    rw [hvn] at HC HSN hxl
    have hvm : vn ≤ m.N := by omega
    have hvi : (vn : Int) < (m.N : Int) + 1 := by omega
    have hvk : vn < m.N + 1 := by omega
    obtain ⟨s0, s1, s2⟩ := HSP4.out.cell hvm
    have f0 : W4.frozen? ⟨q.gs, vn * 3, none⟩ = false := HSP4.out.frozen _
    have f1' : W4.frozen? ⟨q.gs, vn * 3 + 1, none⟩ = false := HSP4.out.frozen _
    have f2 : W4.frozen? ⟨q.gs, vn * 3 + 2, none⟩ = false := HSP4.out.frozen _
    obtain ⟨W6, hW6⟩ : ∃ W6, W6 = (((W4.setCell ⟨q.gs, vn * 3, none⟩ (.int .i64 0)).setCell ⟨q.gs, vn * 3 + 1, none⟩ (.int .i64 0)).setCell ⟨q.gs, vn * 3 + 2, none⟩ (.int .i64 0)).drew := ⟨_, rfl⟩
    have HW6 := Lib.hid hW6
    have HM6 := Lib.hid (show Mem.Mod (fun i => i = q.gs) W4 W6 from hW6 ▸ ((((Mem.Mod.refl (fun i => i = q.gs) W4).setCell (p := ⟨q.gs, vn * 3, none⟩) (.inl rfl) _).setCell (p := ⟨q.gs, vn * 3 + 1, none⟩) (.inl rfl) _).setCell (p := ⟨q.gs, vn * 3 + 2, none⟩) (.inl rfl) _).drew)
    have HSP6 := Lib.hid (show Sp W6 q.gs m.N (clr m.sp (ps ++ [x])) by
      rw [HSN.out, Int.toNat_natCast, hW6]
      exact Sp.set3 HSP4.out hvm 0 0 0)
    have HNG := Lib.hid (Own.ne_blk HO4.out (show Blk W4 q.gs 67 _ from HSP4.out.choose_spec.1) (by decide))
    clear hW4 hW6 g0 g1 f1
    have hmx : Try.prog.follows .mixedOrders = true := by kernel_rfl
    refine wpIn_mono (Q := fun e a' w' => e = Exit.normal ∧ w' = W6) ?reg ?cont
    case reg =>
      gi_region_with_o (refine ⟨trivial, ?_⟩; gi_at_call 13; refine (CallsIn.inRound l (callsIn_wide.2 (HC.out _))).mono ?_; rintro e w7 ⟨rfl, rfl⟩)
      all_goals exact ⟨rfl, HW6.out.symm⟩
    case cont =>
      rintro e a' w' ⟨rfl, rfl⟩
      have HMWE := Lib.hid (show Mem.Mod (fun i => (i = w.heap.size + 1 ∨ A = some ⟨i, 0, none⟩) ∨ i = q.gs) W w' from (HMW.out.mono fun i _ e => .inl e).then_ (HM6.out.mono fun i _ e => .inr e))
      refine ⟨keeps_mod HMWE.out ?_, ?_, ?_⟩
      · rintro i hi ((e | e) | e)
        · rw [e]; exact blk_cells HBB.out
        · obtain ⟨_, ⟨e1, _⟩ | ⟨j, e1, _, _, r, h6, _⟩⟩ := HOWN.out
          · rw [e1] at e; cases e
          · rw [e1] at e; cases e; exact blk_cells h6
        · rw [e]
          obtain ⟨cs, h6, _⟩ := HSPP.out
          exact blk_cells h6
      · rw [HSD.out]
        refine HMWE.out.mono fun i _ hi => ?_
        rcases hi with (e | e) | e
        · exact .inr (.inl e)
        · exact .inr (.inr (HAn i e))
        · exact .inl e
      · show BI W5.heap.size (w.heap.size + 1) q.gs m.N m.sp W5 ((pre ++ [(⟨x, hx⟩ : In (m.lits.drop n))]).map Subtype.val) w'
        rw [HPV.out]
        refine ⟨⟨A', c', ?_, ?_⟩, HSP6.out, ?_⟩
        · have := HB4.out.mod HM6.out (fun e => by have := HGSW.out; omega)
          simpa [HKK.out] using this
        · have := HO4.out.mod HM6.out (fun i _ e hi => HNG.out (by rw [e, hi]))
          simpa [HKK.out] using this
        · refine HMD.out.then_ (HMWE.out.mono fun i _ hi => ?_)
          rcases hi with (e | e) | e
          · exact .inr (.inl e)
          · exact .inr (.inr (HAn i e))
          · exact .inl e
  case done =>
    rintro D xs W hD hxs hi hK
    have hi : BI W5.heap.size (w.heap.size + 1) q.gs m.N m.sp W5 (xs.map Subtype.val) W := hi
    have hrv : xs.map Subtype.val = (m.lits.drop n).reverse := hxs
    rw [hrv] at hi
    obtain ⟨⟨A, c, hb1, hown⟩, hsp, hmd⟩ := hi
    have HMD := Lib.hid hmd
    have hsz := hmd.size
    have HMS := Lib.hid (fun (i : Nat) (h1 : i < w.heap.size + 3) (h2 : i ≠ q.gs) (h3 : i ≠ w.heap.size + 1) => (show ¬ (i = q.gs ∨ i = w.heap.size + 1 ∨ W5.heap.size ≤ i) from by
      have := HS5.out; omega))
    have HKT := Lib.hid (HT5.out.mod hmd (HMS.out _ (by omega) (by have := HGSW.out; omega) (by omega)))
    have HKG := Lib.hid (HA5.out.blk.mod hmd (HMS.out g (by have := HGW.out; omega) H.out.ng (by have := HGW.out; omega)))
    have HLI5 := Lib.hid (HA5.out.lits.mod hmd (fun i _ e => HMS.out i (by rw [HLA.out] at e; cases e; have := HGL.out; omega) (by rw [HLA.out] at e; cases e; exact hne_gl) (by rw [HLA.out] at e; cases e; have := HGL.out; omega)))
    have HTI5 := Lib.hid (HA5.out.starts.mod hmd (fun i _ e => HMS.out i (by rw [HTA.out] at e; cases e; have := HGT.out; omega) (fun e2 => H.out.nt.2 (by rw [e, e2])) (by rw [HTA.out] at e; cases e; have := HGT.out; omega)))
    have HOWN := Lib.hid hown
    have HSPP := Lib.hid hsp
    have HBB := Lib.hid hb1
    have HKD := Lib.hid hK
    have t0 : W.drew.cell? ⟨w.heap.size, 0, none⟩ = some (.pointer (some ⟨g, 0, none⟩)) := HKT.out.cell 0
    have t0' : W.cell? ⟨w.heap.size, 0, none⟩ = some (.pointer (some ⟨g, 0, none⟩)) := HKT.out.cell 0
    have c0 : W.cell? ⟨g, 0, none⟩ = some (.slice (some ⟨gl, 0, none⟩) L q.lc) := by rw [← HLA.out, ← HLL.out]; exact HKG.out.cell 0
    have c2 : W.cell? ⟨g, 2, none⟩ = some (.slice (some ⟨gt, 0, none⟩) sn q.tc) := by rw [← HTA.out, ← HSL.out]; exact HKG.out.cell 2
    have c3 : W.cell? ⟨g, 3, none⟩ = some (.int .i64 (m.head : Int)) := HKG.out.cell 3
    have f0 : W.frozen? ⟨g, 0, none⟩ = false := HKG.out.frozen 0
    have f2 : W.frozen? ⟨g, 2, none⟩ = false := HKG.out.frozen 2
    have f3 : W.frozen? ⟨g, 3, none⟩ = false := HKG.out.frozen 3
    have hx6 : (n : Int) ≤ (q.lc : Int) := by omega
    have hx7 : (lv : Int) ≤ (q.tc : Int) := by omega
    have hx8 : (0 : Int) ≤ (n : Int) := Int.natCast_nonneg _
    have hx9 : (0 : Int) ≤ (lv : Int) := Int.natCast_nonneg _
    have hgb : g ≠ w.heap.size := by have := HGW.out; omega
    clear hb1 hown hsp hmd hK
    go_wp2_with fail
    refine wp_region_noPanic ?_
    refine wp_region_k (fun w' => w'.cell? ⟨w.heap.size, 0, none⟩ = some (.pointer (some ⟨g, 0, none⟩))) 23 (by kernel_rfl) ?_
    change wpAnyK _ _ _ _ _ _ _ 30 _ _ _
    refine wpAnyS_take (i := 0) (oi := ?o0) (v := ?v0) ?hi0 (by kernel_rfl) ?hQ0 ?hw0 t0 (fun _ => rfl) ?hy0 ?rest0
    case hi0 => (simp only [List.getElem?_toArray, List.getElem?_cons_succ, List.getElem?_cons_zero]; exact rfl)
    case hQ0 => exact fun _ _ _ h => h
    case hw0 => rfl
    case hy0 => (intro w9 hw9; go_simp; try with_reducible rfl)
    simp only [Act.put, List.setIfInBounds_toArray, List.set_cons_zero, List.set_cons_succ]
    refine wpAnyS_take (i := 1) (oi := ?o1) (v := ?v1) ?hi1 (by kernel_rfl) ?hQ1 ?hw1 t0 (fun _ => rfl) ?hy1 ?rest1
    case hi1 => (simp only [List.getElem?_toArray, List.getElem?_cons_succ, List.getElem?_cons_zero]; exact rfl)
    case hQ1 => exact fun _ _ _ h => h
    case hw1 => rfl
    case hy1 => (intro w9 hw9; go_simp; try with_reducible rfl)
    simp only [Act.put, List.setIfInBounds_toArray, List.set_cons_zero, List.set_cons_succ]
    refine wpAnyS_take (i := 2) (oi := ?o2) (v := ?v2) ?hi2 (by kernel_rfl) ?hQ2 ?hw2 t0 (fun _ => rfl) ?hy2 ?rest2
    case hi2 => (simp only [List.getElem?_toArray, List.getElem?_cons_succ, List.getElem?_cons_zero]; exact rfl)
    case hQ2 => exact fun _ _ _ h => h
    case hw2 => rfl
    case hy2 => (intro w9 hw9; go_simp; try with_reducible rfl)
    simp only [Act.put, List.setIfInBounds_toArray, List.set_cons_zero, List.set_cons_succ]
    refine wpAnyS_take (i := 3) (oi := ?o3) (v := ?v3) ?hi3 (by kernel_rfl) ?hQ3 ?hw3 t0 (fun _ => rfl) ?hy3 ?rest3
    case hi3 => (simp only [List.getElem?_toArray, List.getElem?_cons_succ, List.getElem?_cons_zero]; exact rfl)
    case hQ3 => exact fun _ _ _ h => h
    case hw3 => rfl
    case hy3 => (intro w9 hw9; go_simp; try with_reducible rfl)
    simp only [Act.put, List.setIfInBounds_toArray, List.set_cons_zero, List.set_cons_succ]
    refine wpAnyS_take (i := 4) (oi := ?o4) (v := ?v4) ?hi4 (by kernel_rfl) ?hQ4 ?hw4 t0 (fun _ => rfl) ?hy4 ?rest4
    case hi4 => (simp only [List.getElem?_toArray, List.getElem?_cons_succ, List.getElem?_cons_zero]; exact rfl)
    case hQ4 => exact fun _ _ _ h => h
    case hw4 => rfl
    case hy4 => (intro w9 hw9; go_simp; try with_reducible rfl)
    simp only [Act.put, List.setIfInBounds_toArray, List.set_cons_zero, List.set_cons_succ]
    refine wpAnyS_take (i := 5) (oi := ?o5) (v := ?v5) ?hi5 (by kernel_rfl) ?hQ5 ?hw5 t0 (fun _ => rfl) ?hy5 ?rest5
    case hi5 => (simp only [List.getElem?_toArray, List.getElem?_cons_succ, List.getElem?_cons_zero]; exact rfl)
    case hQ5 => exact fun _ _ _ h => h
    case hw5 => rfl
    case hy5 => (intro w9 hw9; go_simp; try with_reducible rfl)
    simp only [Act.put, List.setIfInBounds_toArray, List.set_cons_zero, List.set_cons_succ]
    refine wpAnyK_take (i := 6) (oi := ?o6) (v := ?v6) ?hi6 (by kernel_rfl) ?hQ6 ?hw6 t0 ?hy6 ?rest6
    case hi6 => (simp only [List.getElem?_toArray, List.getElem?_cons_succ, List.getElem?_cons_zero]; exact rfl)
    case hQ6 => exact fun _ _ _ h => h
    case hw6 => rfl
    case hy6 => (go_simp; try with_reducible rfl)
    simp only [Act.put, List.setIfInBounds_toArray, List.set_cons_zero, List.set_cons_succ]
    refine wpAnyS_take (i := 7) (oi := ?o7) (v := ?v7) ?hi7 (by kernel_rfl) ?hQ7 ?hw7 t0 (fun _ => rfl) ?hy7 ?rest7
    case hi7 => (simp only [List.getElem?_toArray, List.getElem?_cons_succ, List.getElem?_cons_zero]; exact rfl)
    case hQ7 => exact fun _ _ _ h => h
    case hw7 => rfl
    case hy7 => (intro w9 hw9; go_simp; try with_reducible rfl)
    simp only [Act.put, List.setIfInBounds_toArray, List.set_cons_zero, List.set_cons_succ]
    refine wpAnyS_take (i := 8) (oi := ?o8) (v := ?v8) ?hi8 (by kernel_rfl) ?hQ8 ?hw8 t0 (fun _ => rfl) ?hy8 ?rest8
    case hi8 => (simp only [List.getElem?_toArray, List.getElem?_cons_succ, List.getElem?_cons_zero]; exact rfl)
    case hQ8 => exact fun _ _ _ h => h
    case hw8 => rfl
    case hy8 => (intro w9 hw9; go_simp; try with_reducible rfl)
    simp only [Act.put, List.setIfInBounds_toArray, List.set_cons_zero, List.set_cons_succ]
    refine wpAnyS_take (i := 9) (oi := ?o9) (v := ?v9) ?hi9 (by kernel_rfl) ?hQ9 ?hw9 t0 (fun _ => rfl) ?hy9 ?rest9
    case hi9 => (simp only [List.getElem?_toArray, List.getElem?_cons_succ, List.getElem?_cons_zero]; exact rfl)
    case hQ9 => exact fun _ _ _ h => h
    case hw9 => rfl
    case hy9 => (intro w9 hw9; go_simp; try with_reducible rfl)
    simp only [Act.put, List.setIfInBounds_toArray, List.set_cons_zero, List.set_cons_succ]
    refine wpAnyS_take (i := 10) (oi := ?o10) (v := ?v10) ?hi10 (by kernel_rfl) ?hQ10 ?hw10 t0 (fun _ => rfl) ?hy10 ?rest10
    case hi10 => (simp only [List.getElem?_toArray, List.getElem?_cons_succ, List.getElem?_cons_zero]; exact rfl)
    case hQ10 => exact fun _ _ _ h => h
    case hw10 => rfl
    case hy10 => (intro w9 hw9; go_simp; try with_reducible rfl)
    simp only [Act.put, List.setIfInBounds_toArray, List.set_cons_zero, List.set_cons_succ]
    refine wpAnyS_take (i := 11) (oi := ?o11) (v := ?v11) ?hi11 (by kernel_rfl) ?hQ11 ?hw11 t0 (fun _ => rfl) ?hy11 ?rest11
    case hi11 => (simp only [List.getElem?_toArray, List.getElem?_cons_succ, List.getElem?_cons_zero]; exact rfl)
    case hQ11 => exact fun _ _ _ h => h
    case hw11 => rfl
    case hy11 => (intro w9 hw9; go_simp; try with_reducible rfl)
    simp only [Act.put, List.setIfInBounds_toArray, List.set_cons_zero, List.set_cons_succ]
    refine wpAnyK_take (i := 12) (oi := ?o12) (v := ?v12) ?hi12 (by kernel_rfl) ?hQ12 ?hw12 t0 ?hy12 ?rest12
    case hi12 => (simp only [List.getElem?_toArray, List.getElem?_cons_succ, List.getElem?_cons_zero]; exact rfl)
    case hQ12 => exact fun _ _ _ h => h
    case hw12 => rfl
    case hy12 => (go_simp; try with_reducible rfl)
    simp only [Act.put, List.setIfInBounds_toArray, List.set_cons_zero, List.set_cons_succ]
    refine wpAnyS_take (i := 13) (oi := ?o13) (v := ?v13) ?hi13 (by kernel_rfl) ?hQ13 ?hw13 t0 (fun _ => rfl) ?hy13 ?rest13
    case hi13 => (simp only [List.getElem?_toArray, List.getElem?_cons_succ, List.getElem?_cons_zero]; exact rfl)
    case hQ13 => exact fun _ _ _ h => h
    case hw13 => rfl
    case hy13 => (intro w9 hw9; go_simp; try with_reducible rfl)
    simp only [Act.put, List.setIfInBounds_toArray, List.set_cons_zero, List.set_cons_succ]
    refine wpAnyS_take (i := 14) (oi := ?o14) (v := ?v14) ?hi14 (by kernel_rfl) ?hQ14 ?hw14 t0 (fun _ => rfl) ?hy14 ?rest14
    case hi14 => (simp only [List.getElem?_toArray, List.getElem?_cons_succ, List.getElem?_cons_zero]; exact rfl)
    case hQ14 => exact fun _ _ _ h => h
    case hw14 => rfl
    case hy14 => (intro w9 hw9; go_simp; try with_reducible rfl)
    simp only [Act.put, List.setIfInBounds_toArray, List.set_cons_zero, List.set_cons_succ]
    refine wpAnyS_take (i := 15) (oi := ?o15) (v := ?v15) ?hi15 (by kernel_rfl) ?hQ15 ?hw15 t0 (fun _ => rfl) ?hy15 ?rest15
    case hi15 => (simp only [List.getElem?_toArray, List.getElem?_cons_succ, List.getElem?_cons_zero]; exact rfl)
    case hQ15 => exact fun _ _ _ h => h
    case hw15 => rfl
    case hy15 => (intro w9 hw9; go_simp; try with_reducible rfl)
    simp only [Act.put, List.setIfInBounds_toArray, List.set_cons_zero, List.set_cons_succ]
    refine wpAnyS_take (i := 16) (oi := ?o16) (v := ?v16) ?hi16 (by kernel_rfl) ?hQ16 ?hw16 t0 (fun _ => rfl) ?hy16 ?rest16
    case hi16 => (simp only [List.getElem?_toArray, List.getElem?_cons_succ, List.getElem?_cons_zero]; exact rfl)
    case hQ16 => exact fun _ _ _ h => h
    case hw16 => rfl
    case hy16 => (intro w9 hw9; go_simp; try with_reducible rfl)
    simp only [Act.put, List.setIfInBounds_toArray, List.set_cons_zero, List.set_cons_succ]
    refine wpAnyS_take (i := 17) (oi := ?o17) (v := ?v17) ?hi17 (by kernel_rfl) ?hQ17 ?hw17 t0 (fun _ => rfl) ?hy17 ?rest17
    case hi17 => (simp only [List.getElem?_toArray, List.getElem?_cons_succ, List.getElem?_cons_zero]; exact rfl)
    case hQ17 => exact fun _ _ _ h => h
    case hw17 => rfl
    case hy17 => (intro w9 hw9; go_simp; try with_reducible rfl)
    simp only [Act.put, List.setIfInBounds_toArray, List.set_cons_zero, List.set_cons_succ]
    refine wpAnyK_take (i := 18) (oi := ?o18) (v := ?v18) ?hi18 (by kernel_rfl) ?hQ18 ?hw18 t0 ?hy18 ?rest18
    case hi18 => (simp only [List.getElem?_toArray, List.getElem?_cons_succ, List.getElem?_cons_zero]; exact rfl)
    case hQ18 => exact fun _ _ _ h => h
    case hw18 => rfl
    case hy18 => (go_simp; try with_reducible rfl)
    simp only [Act.put, List.setIfInBounds_toArray, List.set_cons_zero, List.set_cons_succ]
    refine wpAnyS_take (i := 19) (oi := ?o19) (v := ?v19) ?hi19 (by kernel_rfl) ?hQ19 ?hw19 t0 (fun _ => rfl) ?hy19 ?rest19
    case hi19 => (simp only [List.getElem?_toArray, List.getElem?_cons_succ, List.getElem?_cons_zero]; exact rfl)
    case hQ19 => exact fun _ _ _ h => h
    case hw19 => rfl
    case hy19 => (intro w9 hw9; go_simp; try with_reducible rfl)
    simp only [Act.put, List.setIfInBounds_toArray, List.set_cons_zero, List.set_cons_succ]
    refine wpAnyS_take (i := 20) (oi := ?o20) (v := ?v20) ?hi20 (by kernel_rfl) ?hQ20 ?hw20 t0 (fun _ => rfl) ?hy20 ?rest20
    case hi20 => (simp only [List.getElem?_toArray, List.getElem?_cons_succ, List.getElem?_cons_zero]; exact rfl)
    case hQ20 => exact fun _ _ _ h => h
    case hw20 => rfl
    case hy20 => (intro w9 hw9; go_simp; try with_reducible rfl)
    simp only [Act.put, List.setIfInBounds_toArray, List.set_cons_zero, List.set_cons_succ]
    refine wpAnyS_take (i := 21) (oi := ?o21) (v := ?v21) ?hi21 (by kernel_rfl) ?hQ21 ?hw21 t0 (fun _ => rfl) ?hy21 ?rest21
    case hi21 => (simp only [List.getElem?_toArray, List.getElem?_cons_succ, List.getElem?_cons_zero]; exact rfl)
    case hQ21 => exact fun _ _ _ h => h
    case hw21 => rfl
    case hy21 => (intro w9 hw9; go_simp; try with_reducible rfl)
    simp only [Act.put, List.setIfInBounds_toArray, List.set_cons_zero, List.set_cons_succ]
    refine wpAnyS_take (i := 22) (oi := ?o22) (v := ?v22) ?hi22 (by kernel_rfl) ?hQ22 ?hw22 t0 (fun _ => rfl) ?hy22 ?rest22
    case hi22 => (simp only [List.getElem?_toArray, List.getElem?_cons_succ, List.getElem?_cons_zero]; exact rfl)
    case hQ22 => exact fun _ _ _ h => h
    case hw22 => rfl
    case hy22 => (intro w9 hw9; go_simp; try with_reducible rfl)
    simp only [Act.put, List.setIfInBounds_toArray, List.set_cons_zero, List.set_cons_succ]
    refine wpAnyK_one (i := 23) (by kernel_rfl) (by kernel_rfl) ?st23
    refine wpOp_skip (o := ?os23) (w' := ?ws23) ?his23 ?hws23 ?hrs23 ?rs23
    case his23 => (simp only [List.getElem?_toArray, List.getElem?_cons_succ, List.getElem?_cons_zero]; exact rfl)
    case hws23 => rfl
    case hrs23 => (go_simp; try with_reducible rfl)
    refine ⟨(by simp [World.cell?_setCell_far, hgb, t0']), ?_⟩
    try simp only [Act.put, List.setIfInBounds_toArray, List.set_cons_zero, List.set_cons_succ]
    refine wpAnyS_take (i := 24) (oi := ?o24) (v := ?v24) ?hi24 (by kernel_rfl) ?hQ24 ?hw24 (by simp [World.cell?_setCell_far, hgb, t0']) (fun e => absurd e (by decide +kernel)) ?hy24 ?rest24
    case hi24 => (simp only [List.getElem?_toArray, List.getElem?_cons_succ, List.getElem?_cons_zero]; exact rfl)
    case hQ24 => exact fun _ _ _ h => h
    case hw24 => rfl
    case hy24 => (intro w9 hw9; go_simp; try with_reducible rfl)
    simp only [Act.put, List.setIfInBounds_toArray, List.set_cons_zero, List.set_cons_succ]
    refine wpAnyS_take (i := 25) (oi := ?o25) (v := ?v25) ?hi25 (by kernel_rfl) ?hQ25 ?hw25 (by simp [World.cell?_setCell_far, hgb, t0']) (fun e => absurd e (by decide +kernel)) ?hy25 ?rest25
    case hi25 => (simp only [List.getElem?_toArray, List.getElem?_cons_succ, List.getElem?_cons_zero]; exact rfl)
    case hQ25 => exact fun _ _ _ h => h
    case hw25 => rfl
    case hy25 => (intro w9 hw9; go_simp; try with_reducible rfl)
    simp only [Act.put, List.setIfInBounds_toArray, List.set_cons_zero, List.set_cons_succ]
    refine wpAnyK_one (i := 26) (by kernel_rfl) (by kernel_rfl) ?st26
    refine wpOp_skip (o := ?os26) (w' := ?ws26) ?his26 ?hws26 ?hrs26 ?rs26
    case his26 => (simp only [List.getElem?_toArray, List.getElem?_cons_succ, List.getElem?_cons_zero]; exact rfl)
    case hws26 => rfl
    case hrs26 => (go_simp; try with_reducible rfl)
    refine ⟨(by simp [World.cell?_setCell_far, hgb, t0']), ?_⟩
    try simp only [Act.put, List.setIfInBounds_toArray, List.set_cons_zero, List.set_cons_succ]
    refine wpAnyS_take (i := 27) (oi := ?o27) (v := ?v27) ?hi27 (by kernel_rfl) ?hQ27 ?hw27 (by simp [World.cell?_setCell_far, hgb, t0']) (fun e => absurd e (by decide +kernel)) ?hy27 ?rest27
    case hi27 => (simp only [List.getElem?_toArray, List.getElem?_cons_succ, List.getElem?_cons_zero]; exact rfl)
    case hQ27 => exact fun _ _ _ h => h
    case hw27 => rfl
    case hy27 => (intro w9 hw9; go_simp; try with_reducible rfl)
    simp only [Act.put, List.setIfInBounds_toArray, List.set_cons_zero, List.set_cons_succ]
    refine wpAnyS_take (i := 28) (oi := ?o28) (v := ?v28) ?hi28 (by kernel_rfl) ?hQ28 ?hw28 (by simp [World.cell?_setCell_far, hgb, t0']) (fun e => absurd e (by decide +kernel)) ?hy28 ?rest28
    case hi28 => (simp only [List.getElem?_toArray, List.getElem?_cons_succ, List.getElem?_cons_zero]; exact rfl)
    case hQ28 => exact fun _ _ _ h => h
    case hw28 => rfl
    case hy28 => (intro w9 hw9; go_simp; try with_reducible rfl)
    simp only [Act.put, List.setIfInBounds_toArray, List.set_cons_zero, List.set_cons_succ]
    refine wpAnyK_one (i := 29) (by kernel_rfl) (by kernel_rfl) ?st29
    refine wpOp_skip (o := ?os29) (w' := ?ws29) ?his29 ?hws29 ?hrs29 ?rs29
    case his29 => (simp only [List.getElem?_toArray, List.getElem?_cons_succ, List.getElem?_cons_zero]; exact rfl)
    case hws29 => rfl
    case hrs29 => (go_simp; try with_reducible rfl)
    refine ⟨(by simp [World.cell?_setCell_far, hgb, t0']), ?_⟩
    try simp only [Act.put, List.setIfInBounds_toArray, List.set_cons_zero, List.set_cons_succ]
    refine wpAnyK_done (by kernel_rfl) ?_ _
    refine NoPanic.normal ?_
    rw [show (if n < m.head then ((n : Nat) : Int) else (m.head : Int)) = ((min m.head n : Nat) : Int) from by split <;> omega]
    obtain ⟨W7, hW7⟩ : ∃ W7, W7 = (((W.setCell ⟨g, 0, none⟩ (.slice (some ⟨gl, 0, none⟩) n q.lc)).setCell ⟨g, 2, none⟩ (.slice (some ⟨gt, 0, none⟩) lv q.tc)).setCell ⟨g, 3, none⟩ (.int .i64 ((min m.head n : Nat) : Int))).drew := ⟨_, rfl⟩
    rw [← hW7]
    have HM7 := Lib.hid (show Mem.Mod (fun i => i = g) W W7 from hW7 ▸ ((((Mem.Mod.refl (fun i => i = g) W).setCell (p := ⟨g, 0, none⟩) (.inl rfl) _).setCell (p := ⟨g, 2, none⟩) (.inl rfl) _).setCell (p := ⟨g, 3, none⟩) (.inl rfl) _).drew)
    have HB7 := Lib.hid (show Blk W7 g 63 #[.slice (some ⟨gl, 0, none⟩) n q.lc, .slice (some ⟨q.gs, 0, none⟩) (m.N + 1) (m.N + 1), .slice (some ⟨gt, 0, none⟩) lv q.tc, .int .i64 ((min m.head n : Nat) : Int)] by
      rw [hW7]; exact ((HKG.out.set_ 0 _).set_ 2 _).set_ 3 _)
    have k7 : W7.cell? ⟨w.heap.size + 1, 0, none⟩ = some (.slice A (m.lits.drop n).reverse.length c) := (HBB.out.mod HM7.out (by have := HGW.out; omega)).cell 0
    have HKD7 := Lib.hid (show W7.heap[D]? = some (.deferred (some [])) from (HM7.out.block D (Array.getElem?_eq_some_iff.1 HKD.out).1 (by have := HGW.out; have := HS5.out; omega)).trans HKD.out)
    clear hW7 c0 c2 c3 f0 f2 f3 t0 t0'
    go_wp2_with fail
    have HMP := Lib.hid (show Mem.Mod (fun i => i = g ∨ i = D) W (W7.putObj D (.deferred none)) from (HM7.out.mono fun i _ e => .inl e).then_ ((Mod.grown (grownBy_putObj' W7 D (.deferred none))).mono fun i _ e => by cases e; exact .inr rfl))
    have HMQ := Lib.hid (show Mem.Mod (fun i => i = D) W7 (W7.putObj D (.deferred none)) from (Mod.grown (grownBy_putObj' W7 D (.deferred none))).mono fun i _ e => by cases e; rfl)
    have hds := (Array.getElem?_eq_some_iff.1 HKD.out).1
    refine ⟨by simp, .inl ⟨_, _, rfl, run_takeDeferred HKD7.out, _, results_tmp2 rfl _ _ _, ?_⟩⟩
    show BackR w base g m q (lv : Int) (.returned (.tuple #[.slice A (m.lits.length - n) c, .int .i64 0])) (W7.putObj D (.deferred none))
    unfold BackR
    obtain ⟨hr1, hr2, hr3⟩ := HBR.out
    rw [hr1, hr2, hr3]
    have hlen : (m.lits.drop n).reverse.length = m.lits.length - n := by simp
    have hL := HLL.out
    have hSL := HSL.out
    have hs5 := HS5.out
    have hgl' := HGL.out
    have hgt' := HGT.out
    refine ⟨A, c, by rw [hlen], ?_, ?_, ?_⟩
    · refine (HOWN.out.mod HMP.out (fun i h1 e => ?_)).low (by omega)
      rintro (h2 | h2)
      · omega
      · obtain ⟨_, ⟨e1, _⟩ | ⟨j, e1, _, _, r, h6, _⟩⟩ := HOWN.out
        · rw [e1] at e; cases e
        · rw [e1] at e; cases e
          exact blk_cells h6 ⟨_, h2 ▸ HKD.out, rfl⟩
    · have hn := HN.out
      unfold backS
      rw [hn]
      have h8 : Blk (W7.putObj D (.deferred none)) g 63 #[.slice (some ⟨gl, 0, none⟩) n q.lc, .slice (some ⟨q.gs, 0, none⟩) (m.N + 1) (m.N + 1), .slice (some ⟨gt, 0, none⟩) lv q.tc, .int .i64 ((min m.head n : Nat) : Int)] := HB7.out.mod HMQ.out (by omega)
      refine ⟨?_, ?_, ?_, ?_, H.out.bg, H.out.bs⟩
      · have e1 : (m.lits.take n).length = n := by rw [List.length_take]; omega
        have e2 : (m.starts.take lv).length = lv := by rw [List.length_take]; omega
        show Blk _ g _ #[.slice q.lA (m.lits.take n).length q.lc, .slice (some ⟨q.gs, 0, none⟩) (m.N + 1) (m.N + 1), .slice q.tA (m.starts.take lv).length q.tc, .int .i64 ((min m.head n : Nat) : Int)]
        rw [e1, e2, HLA.out, HTA.out]; exact h8
      · have e1 : (m.lits.take n).length = n := by rw [List.length_take]; omega
        show App.Own _ base _ q.lA (m.lits.take n).length q.lc (LI (m.lits.take n))
        have := Own.take (HLI5.out.mod HMP.out (fun i _ e => by
          rw [HLA.out] at e; cases e
          rintro (h2 | h2)
          · exact H.out.nl.1 (by rw [HLA.out, h2])
          · omega)) (k := n) (by omega)
        rw [e1]
        unfold LI at this ⊢
        rw [List.map_take]; exact this
      · have e1 : (m.starts.take lv).length = lv := by rw [List.length_take]; omega
        show App.Own _ base _ q.tA (m.starts.take lv).length q.tc (LN (m.starts.take lv))
        have := Own.take (HTI5.out.mod HMP.out (fun i _ e => by
          rw [HTA.out] at e; cases e
          rintro (h2 | h2)
          · exact H.out.nt.1 (by rw [HTA.out, h2])
          · omega)) (k := lv) (by omega)
        rw [e1]
        unfold LN at this ⊢
        rw [List.map_take]; exact this
      · exact HSPP.out.mod HMP.out (by
          have := HGSW.out
          rintro (h2 | h2)
          · exact H.out.ng h2.symm
          · omega)
    · have hM : Mem.Mod (fun i => (i = q.gs ∨ i = w.heap.size + 1 ∨ W5.heap.size ≤ i) ∨ (i = g ∨ i = D)) W5 (W7.putObj D (.deferred none)) := (HMD.out.mono fun i _ e => .inl e).then_ (HMP.out.mono fun i _ e => .inr e)
      refine ⟨(Mem.Mod.none_ HBW.out (mine g q)).trans hM fun i hi hT => ?_, fun _ _ h => h⟩
      rcases hT with (h2 | h2 | h2) | (h2 | h2)
      · exact .inr (.inl h2)
      · omega
      · omega
      · exact .inl h2
      · omega
  case stop =>
    rintro D c pre W _ _ h _
    exact h.elim
end Go.Proofs.Ytbbpebfgdcidjaa.Ta
