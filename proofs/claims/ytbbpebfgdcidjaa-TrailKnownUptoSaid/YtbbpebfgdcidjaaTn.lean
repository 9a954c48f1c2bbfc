/- Trail: New, may, put, Decide, Assign: what they answer and leave. Conditions: the bounds TOk, the memory. -/
import Derived.Test.YtbbpebfgdcidjaaTm
namespace Go.Proofs.Ytbbpebfgdcidjaa.Ta
open Go.RowKit Go.Proofs.Ytbbpebfgdcidjaa.Mem Go.Proofs.Ytbbpebfgdcidjaa.Sl Go.Proofs.Ytbbpebfgdcidjaa.Cl Go.Proofs.Ytbbpebfgdcidjaa.App Go.Shelf
open Go.Proofs.Ytbbpebfgdcidjaa.FnL (enc_at below_then)
set_option linter.unusedVariables false

def mayE (m : TM) (l r : Int) : Int := if l = 0 ∨ (m.N : Int) < varI l then 4 else if r < -1 then 160 else if 0 < (m.sp (varI l).toNat).1 then 100 else 0
theorem may_nil (l r : Int) (w : World) : Calls Try.prog 48 #[.pointer none, .int .i32 l, .int .i64 r] w fun e w' => e = .returned (.int .i64 1) ∧ w' = w := by
  go_enter Try.func48, Try.ntmps48
  go_wp2
  go_ret
  exact ⟨rfl, rfl⟩
theorem may_any {base g : Nat} {m : TM} {q : TQ} {w : World} (h : TrS w base g m q) (ok : TOk m) (l r : Int) (h0 : -2147483648 ≤ l) (h1 : l ≤ 2147483647) :
    Calls Try.prog 48 #[.pointer (some ⟨g, 0, none⟩), .int .i32 l, .int .i64 r] w fun e w' => e = .returned (.int .i64 (mayE m l r)) ∧ Below w.heap.size w w' := by
  have HC := Lib.hid (Var_any l h0 h1)
  have HE := Lib.hid (show mayE m l r = if l = 0 ∨ (m.N : Int) < varI l then 4 else if r < -1 then 160 else if 0 < (m.sp (varI l).toNat).1 then 100 else 0 from rfl)
  have hN := ok.N
  have H := Lib.hid h
  have q1 : w.cell? ⟨g, 1, none⟩ = some (.slice (some ⟨q.gs, 0, none⟩) (m.N + 1) (m.N + 1)) := h.blk.cell 1
  have hvb := varI_bd h0 h1
  have HCE := Lib.hid (fun (hv : varI l ≤ m.N) => (h.spots.cell (v := (varI l).toNat) (by omega)).1)
  have HZ := Lib.hid (show l ≠ 0 → 1 ≤ varI l from fun hz => by unfold varI; split <;> omega)
  clear h ok
  generalize varI l = v at *
  generalize (m.sp v.toNat).1 = p at *
  generalize m.N = N at *
  by_cases p1 : l = 0
  · have HR := Lib.hid (HE.out.trans (if_pos (.inl p1)))
    subst p1
    go_enter Try.func48, Try.ntmps48
    go_wp2
    go_ret
    exact ⟨by rw [HR.out]; rfl, Below.refl _ _⟩
  · by_cases p2 : (N : Int) < v
    · have HR := Lib.hid (HE.out.trans (if_pos (.inr p2)))
      have hd : decide ((N : Int) + 1 ≤ v) = true := decide_eq_true (by omega)
      have hd2 : (N : Int) + 1 ≤ v := by omega
      go_enter Try.func48, Try.ntmps48
      go_wp2_with fail
      go_quiet ((go_at_call 13; exact qs (HC.out _) ⟨_, rfl⟩))
      go_wp2
      go_ret
      exact ⟨by rw [HR.out]; rfl, by repeat (first | exact Below.refl _ _ | refine belowN ?_ _)⟩
    · have HE2 := Lib.hid (HE.out.trans (if_neg (by omega)))
      have hd : decide ((N : Int) + 1 ≤ v) = false := decide_eq_false (by omega)
      have hd2 : ¬ (N : Int) + 1 ≤ v := by omega
      by_cases p3 : r < -1
      · have HR := Lib.hid (HE2.out.trans (if_pos p3))
        go_enter Try.func48, Try.ntmps48
        go_wp2_with fail
        go_quiet ((go_at_call 13; exact qs (HC.out _) ⟨_, rfl⟩))
        go_wp2
        go_ret
        exact ⟨by rw [HR.out]; rfl, by repeat (first | exact Below.refl _ _ | refine belowN ?_ _)⟩
      · have HE3 := Lib.hid (HE2.out.trans (if_neg p3))
        have hc := HCE.out (by omega)
        have hv1 := HZ.out p1
        by_cases p4 : 0 < p
        · have HR := Lib.hid (HE3.out.trans (if_pos p4))
          go_enter Try.func48, Try.ntmps48
          go_wp2_with fail
          go_quiet ((go_at_call 13; exact qs (HC.out _) ⟨_, rfl⟩))
          go_wp2_with fail
          go_quiet ((go_at_call 13; exact qs (HC.out _) ⟨_, rfl⟩))
          go_wp2
          go_ret
          exact ⟨by rw [HR.out]; rfl, by repeat (first | exact Below.refl _ _ | refine belowN ?_ _)⟩
        · have HR := Lib.hid (HE3.out.trans (if_neg p4))
          go_enter Try.func48, Try.ntmps48
          go_wp2_with fail
          go_quiet ((go_at_call 13; exact qs (HC.out _) ⟨_, rfl⟩))
          go_wp2_with fail
          go_quiet ((go_at_call 13; exact qs (HC.out _) ⟨_, rfl⟩))
          go_wp2
          go_ret
          exact ⟨by rw [HR.out]; rfl, by repeat (first | exact Below.refl _ _ | refine belowN ?_ _)⟩
def putM (m : TM) (l r : Int) : TM := { m with lits := m.lits ++ [l], sp := upd m.sp (varI l).toNat (((m.lits.length + 1 : Nat) : Int), ((m.starts.length : Nat) : Int), r) }
theorem one_rd (w : World) (y : Int) (t : TypeId) : RdV (w.alloc (.cells #[.int .i32 y] t)) (some ⟨w.heap.size, 0, none⟩) (LI [y]) := by
  have := (Row.new w t (LI [y])).rd
  exact this
set_option maxRecDepth 100000 in
theorem put_any {base g : Nat} {m : TM} {q : TQ} {w : World} (h : TrS w base g m q) (ok : TOk m) (hln : m.lits.length ≤ 999999) (l r : Int) (h0 : -2147483648 ≤ l) (h1 : l ≤ 2147483647) (hv1 : 1 ≤ varI l) (hv2 : varI l ≤ m.N) :
    Calls Try.prog 49 #[.pointer (some ⟨g, 0, none⟩), .int .i32 l, .int .i64 r] w fun e w' => e = .returned (.tuple #[]) ∧ ∃ q', TrS w' base g (putM m l r) q' ∧ TStep g q q' w w' := by
  have HC := Lib.hid (Var_any l h0 h1)
  have H := Lib.hid h
  have hbw : base ≤ w.heap.size := Nat.le_trans h.bg (Nat.le_of_lt h.blk.lt)
  have hN := ok.N
  have hsn := ok.sn
  have q0 : w.cell? ⟨g, 0, none⟩ = some (.slice q.lA m.lits.length q.lc) := h.blk.cell 0
  have HBA := Lib.hid (show Below w.heap.size w (w.alloc (.cells #[.int .i32 l] 30)) from (Below.refl _ _).alloc (Nat.le_refl _) _)
  have HA := Lib.hid (h.below HBA.out)
  have HSZ := Lib.hid (show (w.alloc (.cells #[.int .i32 l] 30)).heap.size = w.heap.size + 1 by simp)
  have HG := Lib.hid (fun (w2 : World) (hg : (w.alloc (.cells #[.int .i32 l] 30)).grownBy w2 (Value.slice q.lA m.lits.length q.lc).ownBlock) =>
    (show Mem.Mod (fun i => q.lA = some ⟨i, 0, none⟩) (w.alloc (.cells #[.int .i32 l] 30)) w2 from (Mem.Mod.grown hg).mono fun i _ e => own_mine e (Own.plain H.out.lits)))
  have HPM := Lib.hid (show putM m l r = { m with lits := m.lits ++ [l], sp := upd m.sp (varI l).toNat (((m.lits.length + 1 : Nat) : Int), ((m.starts.length : Nat) : Int), r) } from rfl)
  clear h ok
  go_enter Try.func49, Try.ntmps49
  obtain ⟨W1, hW1⟩ : ∃ W1, W1 = w.alloc (.cells #[.int .i32 l] 30) := ⟨_, rfl⟩
  rw [← hW1] at HBA HA HSZ HG
  have HW1 := Lib.hid hW1
  have hbw1 : base ≤ W1.heap.size := by have := HSZ.out; omega
  have HOR := Lib.hid (show RdV W1 (some ⟨w.heap.size, 0, none⟩) (LI [l]) by rw [hW1]; exact one_rd _ _ _)
  clear hW1
  go_upto_region 1 with (at_builtin; rw [← HW1.out]; refine wpApp rfl _ _ rfl base q.lA m.lits.length q.lc m.lits rfl HA.out.lits (some ⟨w.heap.size, 0, none⟩) 1 1 [l] rfl rfl HOR.out (fun h => by cases h) (by omega) hbw1 (m.lits.length + 1) rfl ?_; intro A' c' w2 hO hb hg hwh; have HO := Lib.hid hO; have HWH := Lib.hid hwh; clear hwh; have HMD := Lib.hid (HG.out w2 hg); clear hO hb hg; have k0 : w2.cell? ⟨g, 0, none⟩ = some (.slice q.lA m.lits.length q.lc) := (HA.out.blk.mod HMD.out HA.out.nl.1).cell 0; have k1 : w2.frozen? ⟨g, 0, none⟩ = false := (HA.out.blk.mod HMD.out HA.out.nl.1).frozen 0)
  have HT2 := Lib.hid (HA.out.starts.mod HMD.out (fun i _ e hc => HA.out.nlt i hc e))
  have HS2 := Lib.hid (HA.out.spots.mod HMD.out HA.out.nl.2)
  have HB2 := Lib.hid (HA.out.blk.mod HMD.out HA.out.nl.1)
  have HNA := Lib.hid (Own.ne_blk HO.out HB2.out (by decide))
  have HNT := Lib.hid (Own.ne_blk HT2.out HB2.out (by decide))
  obtain ⟨W3, hW3⟩ : ∃ W3, W3 = w2.setCell ⟨g, 0, none⟩ (.slice A' (m.lits.length + 1) c') := ⟨_, rfl⟩
  rw [← hW3]
  have HM3 := Lib.hid (show Mem.Mod (fun i => i = g) w2 W3 from hW3 ▸ Mem.Mod.setCell (Mem.Mod.refl (fun i => i = g) _) (p := ⟨g, 0, none⟩) (.inl rfl) _)
  have K3 := Lib.hid (show Blk W3 g 63 #[.slice A' (m.lits.length + 1) c', .slice (some ⟨q.gs, 0, none⟩) (m.N + 1) (m.N + 1), .slice q.tA m.starts.length q.tc, .int .i64 m.head] by
    have := HB2.out.set_ 0 (.slice A' (m.lits.length + 1) c')
    rw [hW3]; simpa using this)
  have O3 := Lib.hid (HO.out.mod HM3.out (fun i _ e hi => HNA.out (by rw [e, hi])))
  have T3 := Lib.hid (HT2.out.mod HM3.out (fun i _ e hi => HNT.out (by rw [e, hi])))
  have S3 := Lib.hid (HS2.out.mod HM3.out (fun e => H.out.ng e.symm))
  have M3 := Lib.hid (show Mem.Mod (mine g q) w W3 from ((Mem.Mod.none_ HBA.out _).then_ (HMD.out.mono fun i _ e => .inr (.inr (.inl e)))).then_ (HM3.out.mono fun i _ e => .inl e))
  have HLA := Lib.hid (fun (i : Nat) (hi : i < w.heap.size) (e : A' = some ⟨i, 0, none⟩) => (show q.lA = some ⟨i, 0, none⟩ from by
    rcases HWH.out i e with h | h
    · exact h
    · have := HSZ.out; omega))
  clear hW3 HM3 HNA HNT HB2 HS2 HT2 HMD HG k0 k1 q0 HO HOR
  have c0 : W3.cell? ⟨g, 0, none⟩ = some (.slice A' (m.lits.length + 1) c') := K3.out.cell 0
  have c1 : W3.cell? ⟨g, 1, none⟩ = some (.slice (some ⟨q.gs, 0, none⟩) (m.N + 1) (m.N + 1)) := K3.out.cell 1
  have c2 : W3.cell? ⟨g, 2, none⟩ = some (.slice q.tA m.starts.length q.tc) := K3.out.cell 2
  obtain ⟨vn, hvn⟩ : ∃ vn : Nat, varI l = vn := ⟨(varI l).toNat, by omega⟩
  rw [hvn] at HC hv1 hv2
  have hvm : vn ≤ m.N := by omega
  have HVN := Lib.hid hvn
  clear hvn
  have s0 := (S3.out.cell hvm).1
  have s1 := (S3.out.cell hvm).2.1
  have s2 := (S3.out.cell hvm).2.2
  have f0 : W3.frozen? ⟨q.gs, vn * 3, none⟩ = false := S3.out.frozen _
  have f1 : W3.frozen? ⟨q.gs, vn * 3 + 1, none⟩ = false := S3.out.frozen _
  have f2 : W3.frozen? ⟨q.gs, vn * 3 + 2, none⟩ = false := S3.out.frozen _
  have HFIN := Lib.hid (fun (x y : Int) (hx : x = ((m.lits.length + 1 : Nat) : Int)) (hy : y = ((m.starts.length : Nat) : Int)) =>
    (show TrS (((W3.drew.setCell ⟨q.gs, vn * 3, none⟩ (.int .i64 x)).setCell ⟨q.gs, vn * 3 + 1, none⟩ (.int .i64 y)).setCell ⟨q.gs, vn * 3 + 2, none⟩ (.int .i64 r)) base g (putM m l r) { q with lA := A', lc := c' } ∧
      TStep g q { q with lA := A', lc := c' } w (((W3.drew.setCell ⟨q.gs, vn * 3, none⟩ (.int .i64 x)).setCell ⟨q.gs, vn * 3 + 1, none⟩ (.int .i64 y)).setCell ⟨q.gs, vn * 3 + 2, none⟩ (.int .i64 r)) from by
    have hm : Mem.Mod (fun i => i = q.gs) W3 (((W3.drew.setCell ⟨q.gs, vn * 3, none⟩ (.int .i64 x)).setCell ⟨q.gs, vn * 3 + 1, none⟩ (.int .i64 y)).setCell ⟨q.gs, vn * 3 + 2, none⟩ (.int .i64 r)) :=
      (((Mem.Mod.refl (fun i => i = q.gs) W3).drew.setCell (p := ⟨q.gs, vn * 3, none⟩) (.inl rfl) _).setCell (p := ⟨q.gs, vn * 3 + 1, none⟩) (.inl rfl) _).setCell (p := ⟨q.gs, vn * 3 + 2, none⟩) (.inl rfl) _
    obtain ⟨cs, hcs, _⟩ := S3.out
    have hng := K3.out.ne_ hcs (by decide)
    have hnl := Own.ne_blk O3.out hcs (by decide)
    have hnt := Own.ne_blk T3.out hcs (by decide)
    have hlen : (putM m l r).lits.length = m.lits.length + 1 := by rw [HPM.out]; simp
    refine ⟨⟨?_, ?_, ?_, ?_, H.out.bg, H.out.bs⟩, ?_, ?_⟩
    · rw [hlen]
      exact K3.out.mod hm (fun e => hng e)
    · rw [hlen]
      exact O3.out.mod hm (fun i _ e hi => hnl (by rw [e, hi]))
    · exact T3.out.mod hm (fun i _ e hi => hnt (by rw [e, hi]))
    · have := Sp.set3 (show Sp W3.drew q.gs m.N m.sp from S3.out) hvm x y r
      rw [HPM.out, HVN.out, hx, hy]
      rw [hx, hy] at this
      exact this
    · exact M3.out.then_ (hm.mono fun i _ e => .inr (.inl e))
    · rintro i hi (h | h | h | h)
      · exact .inl h
      · exact .inr (.inl h)
      · exact .inr (.inr (.inl (HLA.out i hi h)))
      · exact .inr (.inr (.inr h))))
  have hvi : (vn : Int) < (m.N : Int) + 1 := by omega
  have hvk : vn < m.N + 1 := by omega
  generalize hN0 : m.N = N at *
  generalize hS0 : m.starts.length = sn at *
  generalize hL0 : m.lits.length = ln at *
  refine wp_region_still_tail 19 (by kernel_rfl) (by kernel_rfl) ?_
  change wpStill _ _ W3.drew _ _ _
  simp only [List.take_succ_cons, List.take_zero, List.drop_succ_cons, List.drop_zero]
  repeat still_step
  still_call ((HC.out _).mono fun _ _ h => ⟨h.1, h.2.symm⟩)
  repeat still_step
  refine wpStill_nil ?_
  change wpList _ _ _ _ _ W3.drew
  go_wp2
  go_end0
  exact ⟨rfl, _, HFIN.out _ _ (by first | rfl | (rw [hL0]; omega)) (by first | rfl | rw [hS0])⟩
end Go.Proofs.Ytbbpebfgdcidjaa.Ta
