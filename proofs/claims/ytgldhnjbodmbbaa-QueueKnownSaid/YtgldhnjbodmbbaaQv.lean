/- The statement's plays: both answer a call alike. Conditions: the memory, at most a million numbers, at most a million moves. -/
import Derived.Test.YtgldhnjbodmbbaaQu
import Derived.Test.YtgldhnjbodmbbaaOpQ
namespace Go.Proofs.Ytgldhnjbodmbbaa.Qu
open Go.RowKit Go.Proofs.Ytgldhnjbodmbbaa.Mem Go.Proofs.Ytgldhnjbodmbbaa.Sl Go.Shelf
open Go.Proofs.Ytgldhnjbodmbbaa.FnL (enc_at below_then)
open Go.Proofs.Ytgldhnjbodmbbaa.OpQ (OQ Pure)
set_option linter.unusedVariables false

theorem wpAppBo {w : World} {ops : Array Oper} {rest : List Oper} {o : Oper} {a : Act} {Q : Exit → Act → World → Prop} (hgd : o.guard = none) (s x : Operand)
    (ho : o.op = .call { callee := .builtin .append, args := #[s, x], argTypes := #[31, 31] })
    (base : Nat) (A : Option Addr) (n c : Nat) (xs : List Bool) (hs : a.eval s = .slice A n c) (hown : App.Own w base 4 A n c (xs.map Value.bool))
    (A2 : Option Addr) (m c2 : Nat) (news : List Bool) (hx : a.eval x = .slice A2 m c2) (hl : m = news.length) (hr : RdV w A2 (news.map Value.bool)) (hnil : A2 = none → c2 = 0)
    (h63 : n + m ≤ 4000000) (hbase : base ≤ w.heap.size) (r : Nat) (hrr : n + m = r)
    (h : ∀ A' c' w', App.Own w' base 4 A' r c' ((xs ++ news).map Value.bool) → Below base w w' → wpList Try.prog ops Q rest (a.put o.dst (.slice A' r c')) w') : wpList Try.prog ops Q (o :: rest) a w := by
  subst hrr
  obtain ⟨i0, hi⟩ := Option.isSome_iff_exists.1 (show (Try.prog.info? 4).isSome = true by kernel_rfl)
  have hz : (Try.prog.info? 4).map (fun i => (i.zero, i.size, i.bytes)) = some (some (.bool false), 1, 1) := by kernel_rfl
  rw [hi] at hz
  injection hz with hz
  injection hz with hz0 hz
  injection hz with hz1 hz2
  refine App.wpList_app hgd s x 31 ho base 4 i0 (.bool false) 1 Try.underlying31 hi hz0 hz1 hz2 rfl (.slice A n c) n (xs.map Value.bool) hs hown.own A2 m c2 (news.map Value.bool) hx (by simpa using hl) hr hnil (fun u hu => by obtain ⟨y, _, rfl⟩ := List.mem_map.1 hu; rfl) (by unfold maxLen; omega) (by omega) hbase (fun v' w' h1 h2 => ?_)
  obtain ⟨A', c', rfl, hO⟩ := App.Own.of h1
  exact h A' c' w' (by rw [List.map_append]; exact hO) ((Mod.grown h2).below (fun i _ e => hown.block e) hbase)
structure OpOk (B : Nat) (w : World) (o : OQ) : Prop where
  k0 : 0 ≤ o.kind
  k1 : o.kind ≤ 255
  n1 : o.n = o.l.length
  n2 : o.k = o.s.length
  r1 : RdB B w o.A (o.l.map (Value.int .i64))
  r2 : RdB B w o.S (o.s.map Value.bool)
theorem OpOk.below {B : Nat} {w w' : World} {o : OQ} (h : OpOk B w o) (hb : Below B w w') : OpOk B w' o := ⟨h.k0, h.k1, h.n1, h.n2, h.r1.below hb, h.r2.below hb⟩
def opV (x : OQ) : Value := .agg #[.int .u8 x.kind, .slice x.A x.n x.c, .slice x.S x.k x.d]
def playM (m : QM) (x : OQ) : QM := if x.kind % 6 = 3 then m else bumpM m x.l
/-- What a call of both leaves. -/
def PLR (w : World) (B : Nat) (q : QA) (gd : Nat) (d : DR) (m' : QM) (w' : World) : Prop := ∃ d', St w' B q gd d' m' ∧ Mod (FP q gd d) w w' ∧ ∀ i, mineD gd d' i → mineD gd d i ∨ w.heap.size ≤ i
section
variable {w w' : World} {B : Nat} {q : QA} {gd : Nat} {d : DR} {m m' : QM}
theorem PLR.then_ (hb : Below w.heap.size w w') {w2 : World} (h : PLR w' B q gd d m' w2) : PLR w B q gd d m' w2 := by
  obtain ⟨d', h1, h2, h3⟩ := h
  exact ⟨d', h1, (Mod.none_ hb (FP q gd d)).trans h2 (fun _ _ h => h), fun i hi => (h3 i hi).imp id (fun h => Nat.le_trans hb.size h)⟩
theorem PLR.below {w2 : World} (h : PLR w B q gd d m' w') (hb : Below w'.heap.size w' w2) : PLR w B q gd d m' w2 := by
  obtain ⟨d', h1, h2, h3⟩ := h
  exact ⟨d', h1.below hb, h2.trans (Mod.none_ hb (FP q gd d)) (fun _ _ h => h), h3⟩
/-- The queue has turned, the document's not yet. -/
theorem St.half (h : St w B q gd d m) (hq : QL w' B q m') (hm : Mod (mq q) w w') : RqR w' B gd d := h.r.mod hm (fun i hi e => h.ap i e hi)
theorem St.next (h : St w B q gd d m) (hq : QL w' B q m) (hm : Mod (mq q) w w') : PLR w B q gd d m w' :=
  ⟨d, ⟨hq, h.half hq hm, h.i, h.ap⟩, hm.mono (fun _ _ h => .inl h), fun i hi => .inl hi⟩
theorem St.bump (h : St w B q gd d m) (hq : QL w' B q m') (hm : Mod (mq q) w w') {w2 : World} {d' : DR} (hr : RqR w2 B gd d') (hi : DInv m' d') (ha : d'.rA = d.rA ∨ ∀ i, d'.rA = some ⟨i, 0, none⟩ → w'.heap.size ≤ i) (hs : d'.sA = d.sA) (hm2 : Mod (mineD gd d) w' w2) : PLR w B q gd d m' w2 := by
  have hfr : ∀ i, mineD gd d' i → mineD gd d i ∨ w'.heap.size ≤ i := fun i hi => by
    rcases hi with e | e | e
    · exact .inl (.inl e)
    · rcases ha with e2 | e2
      · exact .inl (.inr (.inl (by rw [← e2]; exact e)))
      · exact .inr (e2 i e)
    · exact .inl (.inr (.inr (by rw [← hs]; exact e)))
  refine ⟨d', ⟨hq.mod hm2 (fun i e e2 => h.ap i e e2) (fun i hb => (h.half hq hm).bools hb), hr, hi, fun i e e2 => ?_⟩, ?_, fun i hi => (hfr i hi).imp id (fun h => Nat.le_trans hm.size h)⟩
  · rcases hfr i e2 with e3 | e3
    · exact h.ap i e e3
    · exact absurd (h.lq.minB e).2 (Nat.not_lt_of_le (Nat.le_trans hm.size e3))
  · exact (hm.mono (fun _ _ h => .inl h)).trans hm2 (fun _ _ h => .inr h)
end
set_option maxRecDepth 100000 in
set_option maxHeartbeats 4000000 in
theorem plays_ok {w : World} {B B0 : Nat} {q : QA} {gd : Nat} {d : DR} {m : QM} (h : St w B q gd d m) (hB : B ≤ w.heap.size) (hB0 : B0 ≤ B) (hmv : m.moved ≤ 999999) (x : OQ) (hx : OpOk B0 w x) (hp : Pure x) (hn : x.n ≤ 1000000) (hk : x.k ≤ 1000000) :
    Calls Try.prog 21 #[.pointer (some ⟨q.g, 0, none⟩), .pointer (some ⟨gd, 0, none⟩), opV x] w fun e w' => e = .returned (.bool true) ∧ PLR w B q gd d (playM m x) w' := by
  have H := Lib.hid h
  have HX := Lib.hid hx
  have HP := Lib.hid hp
  have HMV := Lib.hid hmv
  have hk0 := hx.k0
  have hk1 := hx.k1
  have HTM := Lib.hid (show x.kind.tmod 6 = x.kind % 6 from Int.tmod_eq_emod_of_nonneg hx.k0)
  have HB := Lib.hid hB
  clear h hx hp hmv hB
  unfold opV
  go_enter Try.func21, Try.ntmps21
  go_upto_region 1 with (fail)
  obtain ⟨W, hW⟩ : ∃ W, W = w.alloc (.cells #[.int .u8 x.kind, .slice x.A x.n x.c, .slice x.S x.k x.d] 33) := ⟨_, rfl⟩
  rw [← hW]
  have k0 := Blk.new w 33 #[.int .u8 x.kind, .slice x.A x.n x.c, .slice x.S x.k x.d]
  rw [← hW] at k0
  have K0 := Lib.hid k0
  have KB := Lib.hid (show Below w.heap.size w W from hW ▸ (Below.refl _ w).alloc (Nat.le_refl _) _)
  have KS := Lib.hid (show W.heap.size = w.heap.size + 1 by rw [hW]; simp)
  have c0 : W.cell? ⟨w.heap.size, 0, none⟩ = some (.int .u8 x.kind) := k0.cell 0
  have c1 : W.cell? ⟨w.heap.size, 1, none⟩ = some (.slice x.A x.n x.c) := k0.cell 1
  have c2 : W.cell? ⟨w.heap.size, 2, none⟩ = some (.slice x.S x.k x.d) := k0.cell 2
  have HXW := Lib.hid (HX.out.below (KB.out.mono (Nat.le_trans hB0 HB.out)))
  have HZ := Lib.hid (show B0 ≤ W.heap.size from Nat.le_trans (Nat.le_trans hB0 HB.out) KB.out.size)
  clear hW k0
  by_cases h3 : x.kind % 6 = 3
  · have HPM := Lib.hid (show playM m x = m from if_pos h3)
    have h3' : x.kind.tmod 6 = 3 := HTM.out.trans h3
    have e6 : IntKind.u8.wrap 3 = 3 := by decide
    go_upto_region 4 with (at_builtin; refine wpAppBo rfl _ _ rfl W.heap.size none 0 0 [] rfl (App.Own.nil _ _ _) x.S x.k x.d x.s rfl HXW.out.n2 (HXW.out.r2.rd HZ.out) HP.out.ns (by omega) (Nat.le_refl _) x.k (Nat.zero_add _) ?_; intro A0 a0 w2 hO hb2; have HO := Lib.hid hO; have HB2 := Lib.hid hb2; clear hO hb2)
    rw [List.nil_append] at HO
    have HBW := Lib.hid (below_then KB.out (show Below W.heap.size W w2 from HB2.out) KB.out.size)
    have H2 := Lib.hid (H.out.below HBW.out)
    have K2 := Lib.hid (K0.out.below HB2.out)
    have HNX := Lib.hid (qnext_ok H2.out.lq A0 x.k a0 x.s HX.out.n2 HO.out.rd (by omega))
    clear c0 c1 c2
    go_wp2_with fail
    refine HNX.out.mono ?_
    rintro e w3 ⟨rfl, hq3, hm3⟩
    have HPL := Lib.hid (PLR.then_ HBW.out (H2.out.next hq3 hm3))
    have HNO := Lib.hid (show ∀ i, w.heap.size ≤ i → ¬ mq q i from fun i hi e => absurd (H.out.lq.minB e).2 (Nat.not_lt_of_le hi))
    have HB03 := Lib.hid (show Below B0 w w3 from Mem.Below.then_mod (HBW.out.mono (Nat.le_trans hB0 HB.out)) hm3 (fun i hi e => absurd (H.out.lq.minB e).1 (by omega)) (Nat.le_trans hB0 HB.out))
    have HO3 := Lib.hid (HO.out.mod hm3 (fun i hi _ => HNO.out i (by have := KS.out; omega)))
    have K3 := Lib.hid (K2.out.mod hm3 (HNO.out _ (Nat.le_refl _)))
    have HX3 := Lib.hid (HX.out.below HB03.out)
    have HZ3 := Lib.hid (show B0 ≤ w3.heap.size from Nat.le_trans (Nat.le_trans hB0 HB.out) (Nat.le_trans HBW.out.size hm3.size))
    have HNR := Lib.hid (rnext_any (H2.out.half hq3 hm3) H.out.i x.S x.k x.d x.s HX.out.n2 (HX3.out.r2.rd HZ3.out) (by omega))
    have d2 : w3.cell? ⟨w.heap.size, 2, none⟩ = some (.slice x.S x.k x.d) := K3.out.cell 2
    clear HNX hq3 hm3 HO HB2 K0 K2 KB HXW HZ
    generalize ansN m.row x.s = v at *
    generalize decide (v ≠ 0) = b at *
    go_wp2_with fail
    refine HNR.out.mono ?_
    rintro e w4 ⟨rfl, rfl⟩
    clear HNR
    go_wp2_with fail
    go_loopw [12] (fun i wr => ∃ (k z : Nat), k ≤ x.k ∧ i = .int .i64 k ∧ wr = w3.drewN z) (fun i _ => x.k - (intOf i).toNat)
    case atStart => exact ⟨0, 0, Nat.zero_le _, rfl, rfl⟩
    case round =>
      obtain ⟨k, z, hkk, rfl, hwz⟩ := hrel
      have HWZ := Lib.hid hwz
      have d2' : wr.cell? ⟨w.heap.size, 2, none⟩ = some (.slice x.S x.k x.d) := hwz ▸ d2
      have HOr := Lib.hid (show App.Own wr W.heap.size 4 A0 x.k a0 (x.s.map Value.bool) from hwz ▸ HO3.out.drewN z)
      have HRr := Lib.hid (show RdV wr x.S (x.s.map Value.bool) from hwz ▸ (HX3.out.r2.rd HZ3.out).drewN z)
      clear hwz d2
      by_cases hlt : k < x.k
      · have hks : k < x.s.length := by rw [← HX.out.n2]; exact hlt
        obtain ⟨bt, ot, eB, _, hct⟩ := RdV.at_ HRr.out (enc_at (enc := Value.bool) hks)
        obtain ⟨ga, eA, _, hrow⟩ := HOr.out.row (by omega)
        have hca : wr.cell? ⟨ga, k, none⟩ = some (.bool x.s[k]) := hrow.cell (enc_at (enc := Value.bool) hks)
        generalize x.s[k]'hks = y at *
        rw [eB] at d2'
        subst eA
        clear hrow hks eB HO3 HOr
        rcases y with _ | _
        · go_wp2_with fail
          go_quiet (fail)
          go_wp2
          go_roundw
          case rel => exact ⟨k + 1, z + nq, by omega, by go_num, by rw [← drewN_add, ← HWZ.out]⟩
          case measure => simp [intOf]; omega
        · go_wp2_with fail
          go_quiet (fail)
          go_wp2
          go_roundw
          case rel => exact ⟨k + 1, z + nq, by omega, by go_num, by rw [← drewN_add, ← HWZ.out]⟩
          case measure => simp [intOf]; omega
      · have HFIN := Lib.hid (show PLR w B q gd d (playM m x) wr from by
          rw [HPM.out, HWZ.out]
          exact HPL.out.below (belowN (Below.refl _ _) z))
        go_wp2
        go_ret
        exact ⟨rfl, HFIN.out⟩
  · have HPM := Lib.hid (show playM m x = bumpM m x.l from if_neg h3)
    have h3' : x.kind.tmod 6 ≠ 3 := fun e => h3 (HTM.out.symm.trans e)
    have h3b : (x.kind.tmod 6 == 3) = false := by simpa using h3'
    go_upto_region 14 with (at_builtin; refine wpAppZ rfl _ _ rfl W.heap.size none 0 0 [] rfl (App.Own.nil _ _ _) x.A x.n x.c x.l rfl HXW.out.n1 (HXW.out.r1.rd HZ.out) HP.out.nl (by omega) (Nat.le_refl _) x.n (Nat.zero_add _) ?_; intro A0 a0 w2 hO hb2; have HO := Lib.hid hO; have HB2 := Lib.hid hb2; clear hO hb2)
    rw [List.nil_append] at HO
    have HBW := Lib.hid (below_then KB.out (show Below W.heap.size W w2 from HB2.out) KB.out.size)
    have H2 := Lib.hid (H.out.below HBW.out)
    have K2 := Lib.hid (K0.out.below HB2.out)
    have HBU := Lib.hid (qbump_ok H2.out.lq HMV.out A0 x.n a0 x.l HX.out.n1 HO.out.rd (fun y hy => HP.out.li y hy) hn)
    clear c0 c1 c2
    go_wp2_with fail
    refine HBU.out.mono ?_
    rintro e w3 ⟨rfl, hq3, hm3⟩
    have HNO := Lib.hid (show ∀ i, w.heap.size ≤ i → ¬ mq q i from fun i hi e => absurd (H.out.lq.minB e).2 (Nat.not_lt_of_le hi))
    have HND := Lib.hid (show ∀ i, w.heap.size ≤ i → ¬ mineD gd d i from fun i hi e => absurd (H.out.r.minB e).2 (Nat.not_lt_of_le hi))
    have HB03 := Lib.hid (show Below B0 w w3 from Mem.Below.then_mod (HBW.out.mono (Nat.le_trans hB0 HB.out)) hm3 (fun i hi e => absurd (H.out.lq.minB e).1 (by omega)) (Nat.le_trans hB0 HB.out))
    have HO3 := Lib.hid (HO.out.mod hm3 (fun i hi _ => HNO.out i (by have := KS.out; omega)))
    have K3 := Lib.hid (K2.out.mod hm3 (HNO.out _ (Nat.le_refl _)))
    have HX3 := Lib.hid (HX.out.below HB03.out)
    have HZ3 := Lib.hid (show B0 ≤ w3.heap.size from Nat.le_trans (Nat.le_trans hB0 HB.out) (Nat.le_trans HBW.out.size hm3.size))
    have HRB := Lib.hid (rbump_any (H2.out.half hq3 hm3) H.out.i HMV.out x.A x.n x.c x.l HX.out.n1 (HX3.out.r1.rd HZ3.out) (fun hpos b off e hd => by
      have h1 := (H.out.r.minB hd).1
      obtain ⟨b', off', e', hx, _⟩ := HX3.out.r1 (by rw [List.length_map, ← HX.out.n1]; exact hpos)
      cases e.symm.trans e'
      omega) hn)
    have HQ3 := Lib.hid hq3
    have HM3 := Lib.hid hm3
    have d1 : w3.cell? ⟨w.heap.size, 1, none⟩ = some (.slice x.A x.n x.c) := K3.out.cell 1
    clear HBU hq3 hm3 HO HB2 K0 K2 KB HXW HZ
    go_wp2_with fail
    refine HRB.out.mono ?_
    rintro e w4 ⟨rfl, d', hr4, hi4, ha4, hs4, hm4⟩
    have HPL := Lib.hid (PLR.then_ HBW.out (H2.out.bump HQ3.out HM3.out hr4 hi4 ha4 hs4 hm4))
    have HO4 := Lib.hid (HO3.out.mod hm4 (fun i hi _ => HND.out i (by have := KS.out; omega)))
    have K4 := Lib.hid (K3.out.mod hm4 (HND.out _ (Nat.le_refl _)))
    have HX4 := Lib.hid (HX.out.below (Mem.Below.then_mod HB03.out hm4 (fun i hi e => absurd (H.out.r.minB e).1 (by omega)) (Nat.le_trans hB0 HB.out)))
    have HZ4 := Lib.hid (Nat.le_trans HZ3.out hm4.size)
    have d1' : w4.cell? ⟨w.heap.size, 1, none⟩ = some (.slice x.A x.n x.c) := K4.out.cell 1
    have HSM := Lib.hid (same_any (w := w4) A0 x.n a0 x.l HX.out.n1 HO4.out.rd x.A x.n x.c x.l HX.out.n1 (HX4.out.r1.rd HZ4.out) (by omega) (by omega))
    rw [beq_self_eq_true] at HSM
    clear hr4 hi4 ha4 hs4 hm4 HRB d1
    generalize bumpE m x.l = ee at *
    go_wp2_with fail
    refine HSM.out.mono ?_
    rintro e w5 ⟨rfl, hb5⟩
    have HFIN := Lib.hid (show PLR w B q gd d (playM m x) w5 from by
      rw [HPM.out]; exact HPL.out.below hb5)
    clear hb5
    go_wp2
    go_ret
    exact ⟨rfl, HFIN.out⟩
end Go.Proofs.Ytgldhnjbodmbbaa.Qu
