/- The walks of Reach and New of package phase; stores of at most 1000000 variables. -/
import Derived.Test.YtcmicmghnmklnaaPhD
namespace Go.Proofs.Ytcmicmghnmklnaa.Ph
open Go.RowKit Go.Proofs.Ytcmicmghnmklnaa.Mem Go.Proofs.Ytcmicmghnmklnaa.Sl Go.Shelf
set_option linter.unusedVariables false

def reachM (m : PM) (l : List Int) : PM := if mayB m.saved.length l then bestM (targetM m l) l else m
theorem targetM_bn (m : PM) (l : List Int) : (targetM m l).bn = m.bn ∧ (targetM m l).saved = m.saved := by unfold targetM; split <;> exact ⟨rfl, rfl⟩
set_option maxRecDepth 100000 in
theorem reach_any {w : World} {B g : Nat} {p : PV} (h : Ph w B g p) (hB : B ≤ w.heap.size) (a : Option Addr) (cap : Nat) (l : List Int) (n : Nat) (hn : n = l.length) (hm : n ≤ 140737488351232) (hr : RdV w a (l.map (Value.int .i32))) (hd : 0 < l.length → ∀ b off, a = some ⟨b, off, none⟩ → ¬ b = g) :
    Calls Try.prog 11 #[.pointer (some ⟨g, 0, none⟩), .slice a n cap] w fun e w' => ∃ p', e = .returned (.tuple #[.bool (mayB p.saved.length l && decide (p.tn < l.length)), .bool (mayB p.saved.length l && decide (p.bn < l.length)), .int .i64 (noE (mayB p.saved.length l))]) ∧ Ph w' B g p' ∧ p'.abs = reachM p.abs l ∧ p'.sb = p.sb ∧ Mod (fun i => i = g) w w' := by
  have HR := Lib.hid hr
  have HN := Lib.hid hn
  have HP := Lib.hid h
  have hgl := h.blk.lt
  have HD := Lib.hid hd
  clear hr hn h hd
  go_enter Try.func11, Try.ntmps11
  go_upto_region 1 with (fail)
  obtain ⟨W, hW⟩ : ∃ W, W = (w.alloc (.cells #[.pointer (some ⟨g, 0, none⟩)] 25)).alloc (.cells #[.slice a n cap] 30) := ⟨_, rfl⟩
  rw [← hW]
  have hb := Below.alloc (Below.alloc (Below.refl w.heap.size w) (Nat.le_refl _) (.cells #[.pointer (some ⟨g, 0, none⟩)] 25)) (by simp) (.cells #[.slice a n cap] 30)
  have KB := Lib.hid (show Below w.heap.size w W from hW ▸ hb)
  have k1 := Blk.alloc (Blk.new w 25 #[.pointer (some ⟨g, 0, none⟩)]) (.cells #[.slice a n cap] 30)
  have k2 := Blk.new (w.alloc (.cells #[.pointer (some ⟨g, 0, none⟩)] 25)) 30 #[.slice a n cap]
  rw [World.size_alloc] at k2
  rw [← hW] at k1 k2
  have K1 := Lib.hid k1
  have K2 := Lib.hid k2
  have c1 : W.cell? ⟨w.heap.size, 0, none⟩ = some (.pointer (some ⟨g, 0, none⟩)) := k1.cell 0
  have c2 : W.cell? ⟨w.heap.size + 1, 0, none⟩ = some (.slice a n cap) := k2.cell 0
  clear hb k1 k2 hW
  have HM := Lib.hid (may_any (HP.out.below KB.out) a cap l n HN.out hm (HR.out.below KB.out))
  by_cases hb : mayB p.saved.length l = true
  · have HF := Lib.hid (fits_of_may hb)
    have HE := Lib.hid hb
    rw [hb] at HM
    have HS := Lib.hid (show reachM p.abs l = bestM (targetM p.abs l) l by unfold reachM; rw [show p.abs.saved = p.saved from rfl, hb]; rfl)
    clear hb
    go_wp2_with fail
    refine HM.out.mono ?_
    rintro e w1 ⟨rfl, hb1⟩
    have HB1 := Lib.hid (below_then KB.out hb1 KB.out.size)
    have HP1 := Lib.hid ((HP.out.below KB.out).below hb1)
    have L1 := Lib.hid (K1.out.below hb1)
    have L2 := Lib.hid (K2.out.below hb1)
    have d1 : w1.cell? ⟨w.heap.size, 0, none⟩ = some (.pointer (some ⟨g, 0, none⟩)) := L1.out.cell 0
    have d2 : w1.cell? ⟨w.heap.size + 1, 0, none⟩ = some (.slice a n cap) := L2.out.cell 0
    have HR1 := Lib.hid (HR.out.below HB1.out)
    have HZ := Lib.hid (show w.heap.size ≤ w1.heap.size from HB1.out.size)
    clear hb1 c1 c2
    go_upto_region 6 with (fail)
    have HB1' := Lib.hid (Mod.none_ HB1.out (fun i => i = g))
    generalize hz : w.heap.size = z at *
    have HC1 := Lib.hid (reach1_t (w := w1.drew) (HP1.out.drewN 1) (Nat.le_trans hB HZ.out) (z + 1) z a cap n l HN.out hm (HR1.out.drewN 1) HF.out d2 d1 (by omega) (by omega))
    obtain ⟨bt, hbt⟩ : ∃ b, b = decide (p.tn < (l.length : Int)) := ⟨_, rfl⟩
    rw [← hbt] at HC1
    have HBT := Lib.hid hbt
    clear hbt
    have HC2 := Lib.hid (fun (wt : World) (pt : PV) (ht : Ph wt B g pt) (hsv : pt.saved = p.saved) (htm : Mem.Mod (fun i => i = g) w1.drew wt) =>
      reach1_b ht (Nat.le_trans (Nat.le_trans hB HZ.out) htm.size) (z + 1) z a cap n l HN.out hm (mod_rd (HR1.out.drewN 1) htm HD.out) (by rw [hsv]; exact HF.out) ((Blk.mod (S := fun i => i = g) (Blk.drew L2.out) htm (show ¬ z + 1 = g by omega)).cell 0) ((Blk.mod (S := fun i => i = g) (Blk.drew L1.out) htm (show ¬ z = g by omega)).cell 0) (by omega) (by omega))
    go_region_held3 (fun w' => w'.cell? ⟨z, 0, none⟩ = some (.pointer (some ⟨g, 0, none⟩))) (first | exact d1 | exact dt | exact db)
      (first
        | (go_at_call_of 25 (Value.pointer (some ⟨g, 2, none⟩))
           refine HC1.out.mono ?_
           rintro e wt ⟨pt, rfl, ht, hta, hts, htm⟩
           have dt : wt.cell? ⟨z, 0, none⟩ = some (.pointer (some ⟨g, 0, none⟩)) := (Blk.mod (S := fun i => i = g) (Blk.drew L1.out) htm (show ¬ z = g by omega)).cell 0
           have HBN := Lib.hid (show pt.bn = p.bn from (congrArg PM.bn hta).trans (targetM_bn p.abs l).1)
           have HSV := Lib.hid (show pt.saved = p.saved from (congrArg PM.saved hta).trans (targetM_bn p.abs l).2)
           have HT := Lib.hid ht
           have HTA := Lib.hid hta
           have HTS := Lib.hid hts
           have HTM := Lib.hid htm
           clear ht hta hts htm)
        | (go_at_call_of 25 (Value.pointer (some ⟨g, 4, none⟩))
           refine (HC2.out wt pt HT.out HSV.out HTM.out).mono ?_
           rintro e wb ⟨pb, rfl, ht, hta, hts, htm⟩
           have db : wb.cell? ⟨z, 0, none⟩ = some (.pointer (some ⟨g, 0, none⟩)) := (Blk.mod (S := fun i => i = g) (Blk.mod (S := fun i => i = g) (Blk.drew L1.out) HTM.out (show ¬ z = g by omega)) htm (show ¬ z = g by omega)).cell 0
           have GT := Lib.hid ht
           have GTA := Lib.hid hta
           have GTS := Lib.hid hts
           have GTM := Lib.hid htm
           clear ht hta hts htm))
    go_wp2
    go_ret3
    refine ⟨pb, by rw [HE.out, ← HBN.out]; simp [HBT.out, noE], GT.out, ?_, GTS.out.trans HTS.out, HB1'.out.drew.then_ (HTM.out.then_ GTM.out)⟩
    rw [HS.out, GTA.out, HTA.out]
  · have hf : mayB p.saved.length l = false := by simpa using hb
    have HS := Lib.hid (show reachM p.abs l = p.abs by unfold reachM; rw [show p.abs.saved = p.saved from rfl, hf]; rfl)
    have HE := Lib.hid hf
    rw [hf] at HM
    clear hb hf
    go_wp2_with fail
    refine HM.out.mono ?_
    rintro e w1 ⟨rfl, hb1⟩
    have HB1 := Lib.hid (below_then KB.out hb1 KB.out.size)
    clear hb1
    go_wp2
    go_ret3
    exact ⟨p, by rw [HE.out]; rfl, HP.out.below HB1.out, HS.out.symm, rfl, Mod.none_ HB1.out _⟩

theorem new_bad (n : Int) (st : Bool) (seed : Int) (w : World) (hn : n < 0 ∨ 1048576 < n) :
    Calls Try.prog 10 #[.int .i64 n, .bool st, .int .u64 seed] w fun e w' => e = .returned (.tuple #[.pointer none, .int .i64 2]) ∧ w = w' := by
  by_cases h0 : n < 0
  · go_enter Try.func10, Try.ntmps10
    go_wp2
    go_ret2
    exact ⟨rfl, rfl⟩
  · have h1 : 1048576 < n := by omega
    go_enter Try.func10, Try.ntmps10
    go_wp2
    go_ret2
    exact ⟨rfl, rfl⟩
def newM (n : Nat) (st : Bool) (seed : Int) : PM := ⟨List.replicate n st, st, 0, [], 0, [], if seed < 1 then 1 else seed, 0⟩
theorem Ph.fresh {B : Nat} {w1 : World} (sb n : Nat) (st : Bool) (sd : Int) (hr : Row w1 sb 4 (List.replicate n (.bool st)) n) (hB : B ≤ sb) (hB1 : B ≤ w1.heap.size) (hn : n ≤ 1000000) (h0 : 0 ≤ sd) (h1 : sd ≤ 18446744073709551615) :
    Ph (w1.alloc (.cells #[.slice (some ⟨sb, 0, none⟩) n n, .bool st, .int .i64 0, .slice none 0 0, .int .i64 0, .slice none 0 0, .int .u64 sd, .int .i64 0] 62)) B w1.heap.size ⟨sb, n, List.replicate n st, st, 0, none, 0, [], 0, none, 0, [], sd, 0⟩ := by
  have hb := Blk.new w1 62 #[.slice (some ⟨sb, 0, none⟩) n n, .bool st, .int .i64 0, .slice none 0 0, .int .i64 0, .slice none 0 0, .int .u64 sd, .int .i64 0]
  refine ⟨?_, ?_, hB1, hB, .inl ⟨rfl, rfl, rfl⟩, .inl ⟨rfl, rfl, rfl⟩, by simpa using hn, h0, h1, Int.le_refl _, Int.le_refl _, Int.le_refl _⟩
  · simpa [PhC] using hb
  · simpa using hr.alloc _
set_option maxRecDepth 100000 in
theorem new_ok (n : Nat) (st : Bool) (seed : Int) (w : World) (hn : n ≤ 1000000) (h0 : 0 ≤ seed) (h1 : seed ≤ 18446744073709551615) :
    Calls Try.prog 10 #[.int .i64 n, .bool st, .int .u64 seed] w fun e w' => ∃ g p, e = .returned (.tuple #[.pointer (some ⟨g, 0, none⟩), .int .i64 0]) ∧ Ph w' w.heap.size g p ∧ p.abs = newM n st seed ∧ g ≠ p.sb ∧ Below w.heap.size w w' := by
  have HR := Lib.hid (fun (W : World) (b : Nat) => repeat_ok st b n W hn)
  have HN := Lib.hid hn
  by_cases hs : seed < 1
  · have HM := Lib.hid (show newM n st seed = ⟨List.replicate n st, st, 0, [], 0, [], 1, 0⟩ by unfold newM; rw [if_pos hs])
    go_enter Try.func10, Try.ntmps10
    go_wp2_with fail
    refine (HR.out _ _ (by simp [go_sem])).mono ?_
    rintro e w1 ⟨rfl, hr1, hb1⟩
    have HR1 := Lib.hid (show Row w1 (w.heap.size + 1) 4 (List.replicate n (.bool st)) n by rw [World.size_alloc] at hr1; exact hr1)
    have HB1 := Lib.hid (Below.trans (Below.alloc (Below.refl w.heap.size w) (Nat.le_refl _) (.cells #[.bool st] 4)) (hb1.mono (by simp)))
    clear hr1 hb1
    go_wp2
    go_ret2
    exact ⟨_, _, rfl, Ph.fresh _ n st 1 HR1.out (by simp) HB1.out.size HN.out (by omega) (by omega), HM.out.symm, (by have := HR1.out.lt; exact Nat.ne_of_gt this), HB1.out.alloc HB1.out.size _⟩
  · have HM := Lib.hid (show newM n st seed = ⟨List.replicate n st, st, 0, [], 0, [], seed, 0⟩ by unfold newM; rw [if_neg hs])
    have H0 := Lib.hid h0
    have H1 := Lib.hid h1
    go_enter Try.func10, Try.ntmps10
    go_wp2_with fail
    refine (HR.out _ _ (by simp [go_sem])).mono ?_
    rintro e w1 ⟨rfl, hr1, hb1⟩
    have HR1 := Lib.hid (show Row w1 (w.heap.size + 1) 4 (List.replicate n (.bool st)) n by rw [World.size_alloc] at hr1; exact hr1)
    have HB1 := Lib.hid (Below.trans (Below.alloc (Below.refl w.heap.size w) (Nat.le_refl _) (.cells #[.bool st] 4)) (hb1.mono (by simp)))
    clear hr1 hb1
    go_wp2
    go_ret2
    exact ⟨_, _, rfl, Ph.fresh _ n st seed HR1.out (by simp) HB1.out.size HN.out H0.out H1.out, HM.out.symm, (by have := HR1.out.lt; exact Nat.ne_of_gt this), HB1.out.alloc HB1.out.size _⟩
end Go.Proofs.Ytcmicmghnmklnaa.Ph
