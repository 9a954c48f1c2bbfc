/- The walk of plays of the statements of phase. Conditions: the memory, a call's literals (at most 4000, each in 32 bits). -/
import Derived.Test.YtcmicmghnmklnaaPhBA
import Derived.Test.YtcmicmghnmklnaaPhN
namespace Go.Proofs.Ytcmicmghnmklnaa.Ph
open Go.RowKit Go.Proofs.Ytcmicmghnmklnaa.Mem Go.Proofs.Ytcmicmghnmklnaa.Sl Go.Shelf Go.Proofs.Ytcmicmghnmklnaa.Ops
set_option linter.unusedVariables false

theorem own_pl {w w2 wz : World} {B g g' base n c : Nat} {p : PV} {r : RV} {m m' : PM} {A : Option Addr} {xs : List Value} {t : TypeId} (h0 : Ph w B g p) (h0' : Rf w B g' m r) (h : PL w2 wz B g g' p r m') (ho : App.Own w2 base t A n c xs) (hb : w.heap.size ≤ base) : App.Own wz base t A n c xs := by
  obtain ⟨p', r', _, _, _, _, _, _, h7⟩ := h
  exact ho.mod h7 (fun i hi _ hs => by have := (lt_all h0 h0' hs).2; omega)
theorem blk_pl {w w2 wz : World} {B g g' k : Nat} {p : PV} {r : RV} {m m' : PM} {t : TypeId} {cs : Array Value} (h0 : Ph w B g p) (h0' : Rf w B g' m r) (h : PL w2 wz B g g' p r m') (ho : Blk w2 k t cs) (hb : w.heap.size ≤ k) : Blk wz k t cs := by
  obtain ⟨p', r', _, _, _, _, _, _, h7⟩ := h
  exact ho.mod h7 (fun hs => by have := (lt_all h0 h0' hs).2; omega)
theorem below_pl {w w2 wz : World} {B g g' : Nat} {p : PV} {r : RV} {m m' : PM} (h0 : Ph w B g p) (h0' : Rf w B g' m r) (hB : B ≤ w.heap.size) (hb : Below w.heap.size w w2) (h : PL w2 wz B g g' p r m') : Below B w wz := by
  obtain ⟨p', r', _, _, _, _, _, _, h7⟩ := h
  exact Mem.Below.then_mod (hb.mono hB) h7 (fun i hi hs => by have := (lt_all h0 h0' hs).1; omega) hB
theorem cont_at {l : List Int} {k : Nat} (hk : k < l.length) : (List.replicate k (1 : Int) ++ l.drop k)[k]? = some l[k] := by
  rw [List.getElem?_append_right (by simp), List.length_replicate, Nat.sub_self, List.getElem?_drop, Nat.add_zero, List.getElem?_eq_getElem hk]
theorem cont_next {l : List Int} {k : Nat} (hk : k < l.length) : (List.replicate k (1 : Int) ++ l.drop k).set k 1 = List.replicate (k + 1) 1 ++ l.drop (k + 1) := by
  rw [List.set_append_right _ _ (by simp), List.length_replicate, Nat.sub_self, List.drop_eq_getElem_cons hk, List.set_cons_zero, List.replicate_succ', List.append_assoc]; rfl
set_option maxRecDepth 100000 in
set_option maxHeartbeats 8000000 in
theorem plays_ok {w : World} {B g g' B0 : Nat} {p : PV} {r : RV} (h : Ph w B g p) (h' : Rf w B g' p.abs r) (hB : B ≤ w.heap.size) (hd : Dis p r) (hB0 : B0 ≤ B) (ht : p.turned ≤ 4611686018427387904) (x : Op3) (hx : OpOk B0 w x) (hp : Pure x) :
    Calls Try.prog 21 #[.pointer (some ⟨g, 0, none⟩), .pointer (some ⟨g', 0, none⟩), opV x] w fun e w' => e = .returned (.bool true) ∧ PF w w' B g g' p r (playM p.abs x) := by
  have HP := Lib.hid h
  have HR := Lib.hid h'
  have HX := Lib.hid hx
  have HPU := Lib.hid hp
  have HD := Lib.hid hd
  have hk0 := hx.k0
  have hk1 := hx.k1
  have hgl := h.blk.lt
  have HTM := Lib.hid (show x.kind.tmod 9 = x.kind % 9 from Int.tmod_eq_emod_of_nonneg hx.k0)
  have HDEF := Lib.hid (show playM p.abs x = if x.kind % 9 = 0 then p.abs else if x.kind % 9 = 1 ∨ x.kind % 9 = 2 then saveM p.abs x.l else if x.kind % 9 = 3 ∨ x.kind % 9 = 4 then reachM p.abs x.l else if x.kind % 9 = 5 then turnM p.abs else drawM p.abs from rfl)
  have HSB := Lib.hid h.row.lt
  have HBG := Lib.hid h.bg
  have HBS := Lib.hid h.bs
  clear h h' hx hp hd
  unfold opV
  go_enter Try.func21, Try.ntmps21
  go_upto_region 1 with (fail)
  obtain ⟨W, hW⟩ : ∃ W, W = w.alloc (.cells #[.int .u8 x.kind, .int .i64 x.v, .slice x.A x.n x.c] 34) := ⟨_, rfl⟩
  rw [← hW]
  have k0 := Blk.new w 34 #[.int .u8 x.kind, .int .i64 x.v, .slice x.A x.n x.c]
  rw [← hW] at k0
  have K0 := Lib.hid k0
  have KB := Lib.hid (show Below w.heap.size w W from hW ▸ (Below.refl _ w).alloc (Nat.le_refl _) _)
  have KS := Lib.hid (show W.heap.size = w.heap.size + 1 by rw [hW]; simp)
  have c0 : W.cell? ⟨w.heap.size, 0, none⟩ = some (.int .u8 x.kind) := k0.cell 0
  have c1 : W.cell? ⟨w.heap.size, 1, none⟩ = some (.int .i64 x.v) := k0.cell 1
  have c2 : W.cell? ⟨w.heap.size, 2, none⟩ = some (.slice x.A x.n x.c) := k0.cell 2
  have HXW := Lib.hid (HX.out.below (KB.out.mono (Nat.le_trans hB0 hB)))
  have hnl := HX.out.m
  clear hW k0
  go_upto_region 3 with (at_builtin; refine wpAppL rfl _ _ rfl W.heap.size none 0 0 [] rfl (App.Own.nil _ _ _) x.A x.n x.c x.l rfl HXW.out.n (HXW.out.rd.rd (by have := KS.out; omega)) HPU.out.nil (by omega) (Nat.le_refl _) x.n (Nat.zero_add _) ?_; intro A0 a0 w2 hO hb2; have HO := Lib.hid hO; have HB2 := Lib.hid hb2; clear hO hb2)
  have HBW := Lib.hid (show Below w.heap.size w w2 from KB.out.trans (HB2.out.mono (by have := KS.out; omega)))
  have K2 := Lib.hid (K0.out.below HB2.out)
  have HP2 := Lib.hid (HP.out.below HBW.out)
  have HR2 := Lib.hid (HR.out.below HBW.out)
  have HX2 := Lib.hid (HX.out.below (HBW.out.mono (Nat.le_trans hB0 hB)))
  have HZ := Lib.hid (show B ≤ w2.heap.size from Nat.le_trans hB HBW.out.size)
  have HA := Lib.hid (show ∀ i, A0 = some ⟨i, 0, none⟩ → W.heap.size ≤ i ∧ i < w2.heap.size from fun i e => by
    obtain ⟨_, ⟨e1, _⟩ | ⟨j, e1, h2, _, h3⟩⟩ := HO.out
    · rw [e1] at e; cases e
    · rw [e1] at e; cases e; exact ⟨h2, h3.lt⟩)
  have HNX := Lib.hid (show ∀ b off, A0 = some ⟨b, off, none⟩ → b ≠ p.sb ∧ b ≠ g from fun b off e => by
    obtain ⟨_, ⟨e1, _⟩ | ⟨j, e1, h2, _, h3⟩⟩ := HO.out
    · rw [e1] at e; cases e
    · rw [e1] at e; cases e
      have := KS.out; have := HSB.out; exact ⟨by omega, by omega⟩)
  have HXN := Lib.hid (show ∀ (W' : World), OpOk B0 W' x → 0 < x.l.length → ∀ b off, x.A = some ⟨b, off, none⟩ → ¬ b = p.sb ∧ ¬ b = g ∧ ¬ r.vA = some ⟨b, 0, none⟩ from fun W' hx hp b off e => by
    obtain ⟨b', off', e3, h3, _⟩ := hx.rd (by simpa using hp)
    rw [e] at e3; cases e3
    have := HBS.out; have := HBG.out
    exact ⟨by omega, by omega, fun e4 => by have := (HR.out.vlt e4).1; omega⟩)
  have d0 : w2.cell? ⟨w.heap.size, 0, none⟩ = some (.int .u8 x.kind) := K2.out.cell 0
  have d1 : w2.cell? ⟨w.heap.size, 1, none⟩ = some (.int .i64 x.v) := K2.out.cell 1
  have d2 : w2.cell? ⟨w.heap.size, 2, none⟩ = some (.slice x.A x.n x.c) := K2.out.cell 2
  clear c0 c1 c2
  have hr : x.kind % 9 = 0 ∨ (x.kind % 9 = 1 ∨ x.kind % 9 = 2) ∨ (x.kind % 9 = 3 ∨ x.kind % 9 = 4) ∨ x.kind % 9 = 5 ∨ (x.kind % 9 = 6 ∨ x.kind % 9 = 7 ∨ x.kind % 9 = 8) := by omega
  rcases hr with hr | hr | hr | hr | hr
  case' inl =>
    have HE := Lib.hid (show playM p.abs x = p.abs by rw [HDEF.out]; simp [hr])
    have ht1 : x.kind.tmod 9 = 0 := HTM.out.trans hr
    have HD1 := Lib.hid (decide_any HP2.out x.v)
    have HD2 := Lib.hid (fun W' (hb : Below w2.heap.size w2 W') => rdecide_any (HR2.out.below hb) x.v)
    clear hr
    generalize (decA p.abs x.v).1 = da at *
    generalize (decA p.abs x.v).2 = db at *
    go_wp2_with fail
    refine HD1.out.mono ?_
    rintro e w3 ⟨rfl, hb3⟩
    have HB3 := Lib.hid hb3
    have d1 : w3.cell? ⟨w.heap.size, 1, none⟩ = some (.int .i64 x.v) := (K2.out.below hb3).cell 1
    clear hb3
    go_wp2_with fail
    refine (HD2.out w3 HB3.out).mono ?_
    rintro e wz ⟨rfl, hb4⟩
    have HPL := Lib.hid (show PL w2 wz B g g' p r (playM p.abs x) from pl_below (pl_below ⟨p, r, HP2.out, HE.out.symm, rfl, by rw [HE.out]; exact HR2.out, rfl, Frs.refl _ _, Mod.refl _ _⟩ HB3.out) hb4)
    clear hb4
    clear HB3 HD1 HD2
    go_wp2_with fail
  case' inr.inl =>
    have HE := Lib.hid (show playM p.abs x = saveM p.abs x.l by rw [HDEF.out, if_neg (by omega), if_pos hr])
    have HD1 := Lib.hid (save_any (w := w2.drew) (HP2.out.below (Below.refl _ _).drew) A0 a0 x.l x.n HX2.out.n (by omega) HO.out.rd (fun _ b off e => (HNX.out b off e).1))
    have HD2 := Lib.hid (fun (W' : World) (p1 : PV) (h1 : Ph W' B g p1) (a1 : p1.abs = saveM p.abs x.l) (s1 : p1.sb = p.sb) (hm : Mod (fun i => i = p.sb) w2.drew W') => (show Calls Try.prog 36 #[.pointer (some ⟨g', 0, none⟩), .slice x.A x.n x.c] W' fun e w' => e = .returned (.int .i64 (noE (mayB p.saved.length x.l))) ∧ w'.cell? ⟨w.heap.size, 2, none⟩ = some (.slice x.A x.n x.c) ∧ PL w2 w' B g g' p r (playM p.abs x) from by
      have hm2 : Mod (Two g p.sb) w2 W' := (Mod.none_ (Below.refl _ _).drew _).then_ (hm.mono fun i _ e => .inr e)
      have hr3 := rf_after HP2.out HR2.out HD.out hm2
      have hx3 : OpOk B0 W' x := HX2.out.below (hm2.below (fun i hi hs => by have := HBG.out; have := HBS.out; rcases hs with e | e <;> omega) (Nat.le_trans hB0 HZ.out))
      refine (rsave_any hr3 x.A x.c x.l x.n hx3.n (by omega) (hx3.rd.rd (Nat.le_trans hB0 (Nat.le_trans HZ.out hm2.size))) (fun hp b off e => (HXN.out W' hx3 hp b off e).2.2) HPU.out.lb).mono ?_
      rintro e w' ⟨he, h2, m2⟩
      refine ⟨he, ((K2.out.mod hm2 (fun hs => by have := HSB.out; rcases hs with e | e <;> omega)).mod m2 (fun e => by have := (HR.out.vlt e).2; omega)).cell 2, ?_⟩
      rw [HE.out]
      exact pl_of HD.out hr3 h1 a1 s1 hm2 h2 rfl (Frs.refl _ _) (m2.mono fun i _ e => .inr e)))
    have HK1 := Lib.hid (fun (W' : World) (hm : Mod (fun i => i = p.sb) w2.drew W') => (show W'.cell? ⟨w.heap.size, 2, none⟩ = some (.slice x.A x.n x.c) from (K2.out.drew.mod hm (fun e => by have := HSB.out; omega)).cell 2))
    have HRR := Lib.hid hr
    clear hr
    generalize noE (mayB p.saved.length x.l) = er at *
    rcases HRR.out with hr | hr
    all_goals
      have ht1 := HTM.out.trans hr
      clear hr
      go_wp2_with fail
      go_region_held3 (fun w' => w'.cell? ⟨w.heap.size, 2, none⟩ = some (.slice x.A x.n x.c)) (first | exact d2 | exact y1 | exact y2)
        (first
          | (go_at_call 16
             refine HD1.out.mono ?_
             rintro e w3 ⟨p1, rfl, h1, a1, s1, hm⟩
             have y1 := HK1.out w3 hm
             have HC2 := Lib.hid (HD2.out w3 p1 h1 a1 s1 hm)
             clear h1 a1 s1 hm)
          | (go_at_call 36
             refine HC2.out.mono ?_
             rintro e wz ⟨rfl, y2, hpl⟩
             have HPL := Lib.hid hpl
             clear hpl))
      clear y1 y2 HC2 HD1 HD2 HK1
      go_wp2_with fail
  case' inr.inr.inl =>
    have HE := Lib.hid (show playM p.abs x = reachM p.abs x.l by rw [HDEF.out, if_neg (by omega), if_neg (by omega), if_pos hr])
    have HD1 := Lib.hid (reach_any (w := w2) HP2.out HZ.out A0 a0 x.l x.n HX2.out.n (by omega) HO.out.rd (fun _ b off e => (HNX.out b off e).2))
    have HD2 := Lib.hid (fun (W' : World) (p1 : PV) (h1 : Ph W' B g p1) (a1 : p1.abs = reachM p.abs x.l) (s1 : p1.sb = p.sb) (hm : Mod (fun i => i = g) w2 W') => (show Calls Try.prog 37 #[.pointer (some ⟨g', 0, none⟩), .slice x.A x.n x.c] W' fun e w' => e = .returned (.tuple #[.bool (mayB p.saved.length x.l && decide (p.tn < x.l.length)), .bool (mayB p.saved.length x.l && decide (p.bn < x.l.length)), .int .i64 (noE (mayB p.saved.length x.l))]) ∧ PL w2 w' B g g' p r (playM p.abs x) from by
      have hm2 : Mod (Two g p.sb) w2 W' := hm.mono fun i _ e => .inl e
      have hr3 := rf_after HP2.out HR2.out HD.out hm2
      have hx3 : OpOk B0 W' x := HX2.out.below (hm2.below (fun i hi hs => by have := HBG.out; have := HBS.out; rcases hs with e | e <;> omega) (Nat.le_trans hB0 HZ.out))
      refine (rreach_any hr3 (Nat.le_trans HZ.out hm2.size) x.A x.c x.l x.n hx3.n hx3.m (hx3.rd.rd (Nat.le_trans hB0 (Nat.le_trans HZ.out hm2.size))) HPU.out.nil HPU.out.lb).mono ?_
      rintro e w' ⟨r1, he, h2, v2, _, f2, m2⟩
      refine ⟨he, ?_⟩
      rw [HE.out]
      exact pl_of HD.out hr3 h1 a1 s1 hm2 h2 v2 f2 (m2.mono fun i _ e => .inl e)))
    have HK1 := Lib.hid (fun (W' : World) (hm : Mod (fun i => i = g) w2 W') => (show W'.cell? ⟨w.heap.size, 2, none⟩ = some (.slice x.A x.n x.c) from (K2.out.mod hm (fun e => by omega)).cell 2))
    have HRR := Lib.hid hr
    clear hr
    generalize noE (mayB p.saved.length x.l) = er at *
    generalize (mayB p.saved.length x.l && decide (p.tn < x.l.length)) = b1 at *
    generalize (mayB p.saved.length x.l && decide (p.bn < x.l.length)) = b2 at *
    rcases HRR.out with hr | hr
    all_goals
      have ht1 := HTM.out.trans hr
      clear hr
      go_wp2_with fail
      refine HD1.out.mono ?_
      rintro e w3 ⟨p1, rfl, h1, a1, s1, hm⟩
      have d2 := HK1.out w3 hm
      have HC2 := Lib.hid (HD2.out w3 p1 h1 a1 s1 hm)
      clear h1 a1 s1 hm
      go_wp2_with fail
      refine HC2.out.mono ?_
      rintro e wz ⟨rfl, hpl⟩
      have HPL := Lib.hid hpl
      clear hpl HC2 HD1 HD2 HK1
      go_wp2_with fail
  case' inr.inr.inr.inl =>
    have HE := Lib.hid (show playM p.abs x = turnM p.abs by rw [HDEF.out, if_neg (by omega), if_neg (by omega), if_neg (by omega), if_pos hr])
    have ht1 : x.kind.tmod 9 = 5 := HTM.out.trans hr
    have HD1 := Lib.hid (turn_ok (w := w2) HP2.out HZ.out HP2.out.gs ht)
    have HD2 := Lib.hid (fun (W' : World) (p1 : PV) (h1 : Ph W' B g p1) (a1 : p1.abs = turnM p.abs) (s1 : p1.sb = p.sb) (hm2 : Mod (Two g p.sb) w2 W') => (show Calls Try.prog 38 #[.pointer (some ⟨g', 0, none⟩)] W' fun e w' => e = .returned (.int .u8 (kindN p.turned)) ∧ PL w2 w' B g g' p r (playM p.abs x) from by
      have hr3 := rf_after HP2.out HR2.out HD.out hm2
      refine (rturn_ok hr3 (Nat.le_trans HZ.out hm2.size) ht).mono ?_
      rintro e w' ⟨r1, he, h2, v2, _, f2, m2⟩
      refine ⟨he, ?_⟩
      rw [HE.out]
      exact pl_of HD.out hr3 h1 a1 s1 hm2 h2 v2 f2 m2))
    clear hr
    generalize kindN p.turned = kk at *
    go_wp2_with fail
    refine HD1.out.mono ?_
    rintro e w3 ⟨p1, rfl, h1, a1, s1, hm⟩
    have HC2 := Lib.hid (HD2.out w3 p1 h1 a1 s1 hm)
    clear h1 a1 s1 hm
    go_wp2_with fail
    refine HC2.out.mono ?_
    rintro e wz ⟨rfl, hpl⟩
    have HPL := Lib.hid hpl
    clear hpl HC2 HD1 HD2
    go_wp2_with fail
  case' inr.inr.inr.inr =>
    have HE := Lib.hid (show playM p.abs x = drawM p.abs by rw [HDEF.out, if_neg (by omega), if_neg (by omega), if_neg (by omega), if_neg (by omega)])
    have HD1 := Lib.hid (draw_ok (w := w2) HP2.out)
    have HD2 := Lib.hid (fun (W' : World) (hdr : Drawn w2 B g p W') => (show Calls Try.prog 39 #[.pointer (some ⟨g', 0, none⟩)] W' fun e w' => e = .returned (.int .u64 (nextN p.state.toNat : Nat)) ∧ PL w2 w' B g g' p r (playM p.abs x) from by
      obtain ⟨h1, hm⟩ := hdr
      have hm2 : Mod (Two g p.sb) w2 W' := hm.mono fun i _ e => .inl e
      have hr3 := rf_after HP2.out HR2.out HD.out hm2
      refine (rdraw_ok hr3).mono ?_
      rintro e w' ⟨he, h2, m2⟩
      refine ⟨he, ?_⟩
      rw [HE.out]
      exact pl_of HD.out hr3 h1 rfl rfl hm2 h2 rfl (Frs.refl _ _) (m2.mono fun i _ e => .inl e)))
    have HRR := Lib.hid hr
    clear hr
    generalize nextN p.state.toNat = dr at *
    rcases HRR.out with hr | hr | hr
    all_goals
      have ht1 := HTM.out.trans hr
      clear hr
      go_wp2_with fail
      refine HD1.out.mono ?_
      rintro e w3 ⟨rfl, hdr⟩
      have HC2 := Lib.hid (HD2.out w3 hdr)
      clear hdr
      go_wp2_with fail
      refine HC2.out.mono ?_
      rintro e wz ⟨rfl, hpl⟩
      have HPL := Lib.hid hpl
      clear hpl HC2 HD1 HD2
      go_wp2_with fail
  all_goals
    have HOZ := Lib.hid (own_pl HP.out HR.out HPL.out HO.out (by have := KS.out; omega))
    have HKZ := Lib.hid (blk_pl HP.out HR.out HPL.out K2.out (Nat.le_refl _))
    have HBZ := Lib.hid (below_pl HP.out HR.out hB HBW.out HPL.out)
    have HSZ := Lib.hid (show w.heap.size ≤ wz.heap.size from HBZ.out.size)
    clear d0 d1 d2 HO K2 HXW K0 HXN HNX HP2 HR2 HX2 HTM HDEF
    go_loopw [21] (fun i wr => ∃ k : Nat, k ≤ x.n ∧ i = .int .i64 k ∧ App.Own wr W.heap.size 35 A0 x.n a0 (LI (List.replicate k 1 ++ x.l.drop k)) ∧ Mod (fun i => A0 = some ⟨i, 0, none⟩) wz wr) (fun i _ => x.n - (intOf i).toNat)
    case atStart => exact ⟨0, Nat.zero_le _, rfl, HOZ.out, Mod.refl _ _⟩
    case round =>
      obtain ⟨k, hk, rfl, hO, hM⟩ := hrel
      have HO := Lib.hid hO
      have HM := Lib.hid hM
      clear hO hM
      by_cases hlt : k < x.n
      · have hkl : k < x.l.length := by rw [← HX.out.n]; exact hlt
        have hbx : wr.cell? ⟨w.heap.size, 2, none⟩ = some (.slice x.A x.n x.c) := ((HKZ.out.mod HM.out (fun e => by have := (HA.out _ e).1; have := KS.out; omega)).cell 2)
        have hbr : Below B w wr := Mem.Below.then_mod HBZ.out HM.out (fun i hi e => by have := (HA.out _ e).1; have := KS.out; omega) hB
        obtain ⟨bt, ot, eB, _, hct⟩ := (HX.out.rd.below (hbr.mono hB0)) (by simpa using (show 0 < x.l.length by omega))
        have hct2 := hct k _ (by rw [List.getElem?_map, List.getElem?_eq_getElem hkl]; rfl)
        clear hct
        obtain ⟨g1, e1, hbg, hrow⟩ := HO.out.row (by omega)
        subst e1
        have hc : wr.cell? ⟨g1, k, none⟩ = some (.int .i32 (x.l[k]'hkl)) := hrow.cell (by unfold LI; rw [List.getElem?_map, cont_at hkl]; rfl)
        have hf : wr.frozen? ⟨g1, k, none⟩ = false := hrow.frozen _
        have HCN := Lib.hid (cont_next hkl)
        rw [eB] at hbx
        generalize x.l[k]'hkl = y at *
        have HNX := Lib.hid (fun j => (show App.Own (((wr.drewN j).setCell ⟨g1, k, none⟩ (.int .i32 1))) W.heap.size 35 (some ⟨g1, 0, none⟩) x.n a0 (LI (List.replicate (k + 1) 1 ++ x.l.drop (k + 1))) ∧ Mod (fun i => (some ⟨g1, 0, none⟩ : Option Addr) = some ⟨i, 0, none⟩) wz ((wr.drewN j).setCell ⟨g1, k, none⟩ (.int .i32 1)) from by
          refine ⟨?_, (HM.out.drewN j).setCell (p := ⟨g1, k, none⟩) (.inl rfl) _⟩
          have := (HO.out.drewN j).set_ k hlt (.int .i32 1)
          unfold LI at this ⊢
          rw [← HCN.out, List.map_set]
          exact this))
        have hki : (k : Int) < (x.n : Int) := by omega
        have hk0' : (0 : Int) ≤ (k : Int) := Int.natCast_nonneg _
        clear hrow hkl hbr eB HCN
        go_wp2_with fail
        go_quiet (fail)
        go_wp2
        go_roundw
        case rel => exact ⟨k + 1, by omega, by go_num, (HNX.out _).1, (HNX.out _).2⟩
        case measure => simp [intOf]; omega
      · have HF := Lib.hid (pf_of (A := A0) HP.out HR.out HBW.out HPL.out (fun i e => ⟨by have := (HA.out i e).1; have := KS.out; omega, (HA.out i e).2⟩) (fun i cs e hb => by
          obtain ⟨_, ⟨e1, _⟩ | ⟨j, e1, _, _, h3⟩⟩ := HOZ.out
          · rw [e1] at e; cases e
          · rw [e1] at e; cases e
            exact h3.ne_blk hb (by decide) rfl) HM.out)
        go_wp2
        go_ret
        exact ⟨rfl, HF.out⟩
end Go.Proofs.Ytcmicmghnmklnaa.Ph
