/- The walks of Saved of package phase, and of does of the statements. -/
import Derived.Test.YtcmicmghnmklnaaPhK
import Derived.Test.YtcmicmghnmklnaaPhF
import Derived.Test.YtcmicmghnmklnaaShelf
import Derived.Test.YtcmicmghnmklnaaOps
namespace Go.Proofs.Ytcmicmghnmklnaa.Ph
open Go.RowKit Go.Proofs.Ytcmicmghnmklnaa.Mem Go.Proofs.Ytcmicmghnmklnaa.Sl Go.Shelf Go.Proofs.Ytcmicmghnmklnaa.Ops
set_option linter.unusedVariables false

theorem saved_ok {w : World} {B g : Nat} {p : PV} (h : Ph w B g p) :
    Calls Try.prog 15 #[.pointer (some ⟨g, 0, none⟩)] w fun e w' => ∃ g2 cap, e = .returned (.slice (some ⟨g2, 0, none⟩) p.saved.length cap) ∧ w.heap.size ≤ g2 ∧ Row w' g2 4 (p.saved.map Value.bool) cap ∧ Below w.heap.size w w' := by
  have c0 : w.cell? ⟨g, 0, none⟩ = some (.slice (some ⟨p.sb, 0, none⟩) p.saved.length p.scap) := h.blk.cell 0
  have hlen := h.len
  obtain ⟨i0, hi⟩ := Option.isSome_iff_exists.1 (show (Try.prog.info? 4).isSome = true by kernel_rfl)
  have hz : (Try.prog.info? 4).map (fun i => (i.zero, i.size, i.bytes)) = some (some (.bool false), 1, 1) := by kernel_rfl
  rw [hi] at hz
  injection hz with hz
  injection hz with hz0 hz
  injection hz with hz1 hz2
  have HC := Lib.hid (Try.slices_Clone i0 (.bool false) 1 1 hi hz0 hz1 hz2 rfl (by omega) (fun w => by kernel_rfl) p.sb 0 p.saved.length p.scap (p.saved.map Value.bool) w (by simp) (Nat.le_trans hlen (by decide)) (by omega)
    (fun j u hj => by rw [Nat.zero_add]; exact h.row.cell hj) (fun u hu => by obtain ⟨b, _, rfl⟩ := List.mem_map.1 hu; rfl))
  clear h hi hz0 hz1 hz2
  go_enter Try.func15, Try.ntmps15
  go_wp2_with fail
  refine HC.out.mono ?_
  rintro e w1 ⟨v', rfl, ho, hne, hb⟩
  obtain ⟨g2, cap, rfl, h1, h2⟩ := Row.of_own ho hne
  have H2 := Lib.hid h2
  have HB := Lib.hid hb
  clear h2 hb ho
  go_wp2
  go_ret
  exact ⟨g2, cap, rfl, h1, H2.out, HB.out⟩
def decA (m : PM) (v : Int) : Bool × Int := if v < 1 ∨ (m.saved.length : Int) < v then (false, 2) else (decM m v.toNat, 0)
theorem decide_any {w : World} {B g : Nat} {p : PV} (h : Ph w B g p) (v : Int) :
    Calls Try.prog 12 #[.pointer (some ⟨g, 0, none⟩), .int .i64 v] w fun e w' => e = .returned (.tuple #[.bool (decA p.abs v).1, .int .i64 (decA p.abs v).2]) ∧ Below w.heap.size w w' := by
  unfold decA
  by_cases hv : v < 1 ∨ (p.abs.saved.length : Int) < v
  · rw [if_pos hv]
    refine (decide_bad h v hv).mono ?_
    rintro e w' ⟨rfl, rfl⟩
    exact ⟨rfl, Below.refl _ _⟩
  · rw [if_neg hv]
    have hs : p.abs.saved.length = p.saved.length := rfl
    have := decide_ok h v.toNat (by omega) (by omega)
    rw [show ((v.toNat : Nat) : Int) = v by omega] at this
    exact this
/-- A call without copies: what is left, what is told. -/
def doesM (m : PM) (o : Op3) : PM × Nat :=
  if o.kind % 9 = 1 ∨ o.kind % 9 = 2 then (saveM m o.l, 1) else if o.kind % 9 = 3 ∨ o.kind % 9 = 4 then (reachM m o.l, 1)
  else if o.kind % 9 = 5 then (turnM m, 1) else if o.kind % 9 = 6 then (drawM m, nextN m.state.toNat) else (m, 1)
/-- A call's values as an argument. -/
def opV (o : Op3) : Value := .agg #[.int .u8 o.kind, .int .i64 o.v, .slice o.A o.n o.c]
structure OpOk (B : Nat) (w : World) (o : Op3) : Prop where
  k0 : 0 ≤ o.kind
  k1 : o.kind ≤ 255
  v0 : -9223372036854775808 ≤ o.v
  v1 : o.v ≤ 9223372036854775807
  n : o.n = o.l.length
  m : o.n ≤ 4000
  rd : RdB B w o.A (o.l.map (Value.int .i32))
theorem OpOk.below {B : Nat} {w w' : World} {o : Op3} (h : OpOk B w o) (hb : Below B w w') : OpOk B w' o := ⟨h.k0, h.k1, h.v0, h.v1, h.n, h.m, h.rd.below hb⟩
/-- The store behind a call. -/
def Done (w : World) (B g : Nat) (p : PV) (o : Op3) (e : Ending) (w' : World) : Prop :=
  ∃ p', e = .returned (.int .u64 ((doesM p.abs o).2 : Nat)) ∧ Ph w' B g p' ∧ p'.abs = (doesM p.abs o).1 ∧ p'.sb = p.sb ∧ Mod (Two g p.sb) w w'
set_option maxRecDepth 100000 in
theorem does_ok {w : World} {B g : Nat} {p : PV} {B0 : Nat} (h : Ph w B g p) (hB : B ≤ w.heap.size) (hB0 : B0 ≤ B) (hg : g ≠ p.sb) (ht : p.turned ≤ 4611686018427387904) (o : Op3) (ho : OpOk B0 w o) :
    Calls Try.prog 13 #[.pointer (some ⟨g, 0, none⟩), opV o] w (Done w B g p o) := by
  have HP := Lib.hid h
  have HO := Lib.hid ho
  have hk0 := ho.k0
  have hk1 := ho.k1
  have hgl := h.blk.lt
  have HSL := Lib.hid h.row.lt
  have HTM := Lib.hid (show o.kind.tmod 9 = o.kind % 9 from Int.tmod_eq_emod_of_nonneg ho.k0)
  clear h ho
  unfold opV
  go_enter Try.func13, Try.ntmps13
  go_upto_region 1 with (fail)
  obtain ⟨W, hW⟩ : ∃ W, W = w.alloc (.cells #[.int .u8 o.kind, .int .i64 o.v, .slice o.A o.n o.c] 34) := ⟨_, rfl⟩
  rw [← hW]
  have k0 := Blk.new w 34 #[.int .u8 o.kind, .int .i64 o.v, .slice o.A o.n o.c]
  rw [← hW] at k0
  have KB := Lib.hid (show Below w.heap.size w W from hW ▸ (Below.refl _ w).alloc (Nat.le_refl _) _)
  have c0 : W.cell? ⟨w.heap.size, 0, none⟩ = some (.int .u8 o.kind) := k0.cell 0
  have c1 : W.cell? ⟨w.heap.size, 1, none⟩ = some (.int .i64 o.v) := k0.cell 1
  have c2 : W.cell? ⟨w.heap.size, 2, none⟩ = some (.slice o.A o.n o.c) := k0.cell 2
  have HP1 := Lib.hid (HP.out.below KB.out)
  have HO1 := Lib.hid (HO.out.below (KB.out.mono (show B0 ≤ w.heap.size by omega)))
  have HZ := Lib.hid (show B ≤ W.heap.size from Nat.le_trans hB KB.out.size)
  have HBG := Lib.hid HP.out.bg
  have HBS := Lib.hid HP.out.bs
  clear hW k0
  have hr : o.kind % 9 = 0 ∨ o.kind % 9 = 1 ∨ o.kind % 9 = 2 ∨ o.kind % 9 = 3 ∨ o.kind % 9 = 4 ∨ o.kind % 9 = 5 ∨ o.kind % 9 = 6 ∨ o.kind % 9 = 7 ∨ o.kind % 9 = 8 := by omega
  have HM : Hid (∀ {W' : World} {x : Nat}, Mem.Mod (fun i => i = x) W W' → (x = g ∨ x = p.sb) → Mem.Mod (Two g p.sb) w W') := Lib.hid (fun hm hx => (Mod.none_ KB.out _).then_ (hm.mono (fun i _ e => by
    rcases hx with rfl | rfl
    · exact .inl e
    · exact .inr e)))
  rcases hr with hr | hr | hr | hr | hr | hr | hr | hr | hr
  · have HE := Lib.hid (show doesM p.abs o = (p.abs, 1) by unfold doesM; simp [hr])
    have ht1 : o.kind.tmod 9 = 0 := HTM.out.trans hr
    have HR := Lib.hid hr
    clear hr
    go_wp2_with fail
    refine (decide_any HP1.out o.v).mono ?_
    rintro e w1 ⟨rfl, hb1⟩
    have HB1 := Lib.hid hb1
    clear hb1
    go_wp2
    go_ret
    exact ⟨p, by rw [HE.out]; rfl, HP1.out.below HB1.out, by rw [HE.out], rfl, (Mod.none_ KB.out _).then_ (Mod.none_ HB1.out _)⟩
  · have HE := Lib.hid (show doesM p.abs o = (saveM p.abs o.l, 1) by unfold doesM; simp [hr])
    have ht1 : o.kind.tmod 9 = 1 := HTM.out.trans hr
    have HR := Lib.hid hr
    clear hr
    go_wp2_with fail
    refine (save_any HP1.out  o.A o.c o.l o.n HO1.out.n (by have := HO1.out.m; omega) (HO1.out.rd.rd (by have := HZ.out; omega)) (fun hp b off e1 e2 => by obtain ⟨b', off', e3, h3, _⟩ := HO1.out.rd (by simpa using hp); rw [e1] at e3; cases e3; have := HBS.out; omega)).mono ?_
    rintro e w1 ⟨p1, rfl, h1, ha1, hs1, hm1⟩
    have H1 := Lib.hid h1
    have HM1 := Lib.hid hm1
    have HA1 := Lib.hid ha1
    have HS1 := Lib.hid hs1
    clear ha1 hs1
    clear h1 hm1
    go_wp2
    go_ret
    exact ⟨p1, by rw [HE.out]; rfl, H1.out, by rw [HE.out]; exact HA1.out, HS1.out, HM.out HM1.out (.inr rfl)⟩
  · have HE := Lib.hid (show doesM p.abs o = (saveM p.abs o.l, 1) by unfold doesM; simp [hr])
    have ht1 : o.kind.tmod 9 = 2 := HTM.out.trans hr
    have HR := Lib.hid hr
    clear hr
    go_wp2_with fail
    refine (save_any HP1.out  o.A o.c o.l o.n HO1.out.n (by have := HO1.out.m; omega) (HO1.out.rd.rd (by have := HZ.out; omega)) (fun hp b off e1 e2 => by obtain ⟨b', off', e3, h3, _⟩ := HO1.out.rd (by simpa using hp); rw [e1] at e3; cases e3; have := HBS.out; omega)).mono ?_
    rintro e w1 ⟨p1, rfl, h1, ha1, hs1, hm1⟩
    have H1 := Lib.hid h1
    have HM1 := Lib.hid hm1
    have HA1 := Lib.hid ha1
    have HS1 := Lib.hid hs1
    clear ha1 hs1
    clear h1 hm1
    go_wp2
    go_ret
    exact ⟨p1, by rw [HE.out]; rfl, H1.out, by rw [HE.out]; exact HA1.out, HS1.out, HM.out HM1.out (.inr rfl)⟩
  · have HE := Lib.hid (show doesM p.abs o = (reachM p.abs o.l, 1) by unfold doesM; simp [hr])
    have ht1 : o.kind.tmod 9 = 3 := HTM.out.trans hr
    have HR := Lib.hid hr
    clear hr
    go_wp2_with fail
    refine (reach_any HP1.out HZ.out o.A o.c o.l o.n HO1.out.n (by have := HO1.out.m; omega) (HO1.out.rd.rd (by have := HZ.out; omega)) (fun hp b off e1 e2 => by obtain ⟨b', off', e3, h3, _⟩ := HO1.out.rd (by simpa using hp); rw [e1] at e3; cases e3; have := HBG.out; omega)).mono ?_
    rintro e w1 ⟨p1, rfl, h1, ha1, hs1, hm1⟩
    have H1 := Lib.hid h1
    have HM1 := Lib.hid hm1
    have HA1 := Lib.hid ha1
    have HS1 := Lib.hid hs1
    clear ha1 hs1
    clear h1 hm1
    go_wp2
    go_ret
    exact ⟨p1, by rw [HE.out]; rfl, H1.out, by rw [HE.out]; exact HA1.out, HS1.out, HM.out HM1.out (.inl rfl)⟩
  · have HE := Lib.hid (show doesM p.abs o = (reachM p.abs o.l, 1) by unfold doesM; simp [hr])
    have ht1 : o.kind.tmod 9 = 4 := HTM.out.trans hr
    have HR := Lib.hid hr
    clear hr
    go_wp2_with fail
    refine (reach_any HP1.out HZ.out o.A o.c o.l o.n HO1.out.n (by have := HO1.out.m; omega) (HO1.out.rd.rd (by have := HZ.out; omega)) (fun hp b off e1 e2 => by obtain ⟨b', off', e3, h3, _⟩ := HO1.out.rd (by simpa using hp); rw [e1] at e3; cases e3; have := HBG.out; omega)).mono ?_
    rintro e w1 ⟨p1, rfl, h1, ha1, hs1, hm1⟩
    have H1 := Lib.hid h1
    have HM1 := Lib.hid hm1
    have HA1 := Lib.hid ha1
    have HS1 := Lib.hid hs1
    clear ha1 hs1
    clear h1 hm1
    go_wp2
    go_ret
    exact ⟨p1, by rw [HE.out]; rfl, H1.out, by rw [HE.out]; exact HA1.out, HS1.out, HM.out HM1.out (.inl rfl)⟩
  · have HE := Lib.hid (show doesM p.abs o = (turnM p.abs, 1) by unfold doesM; simp [hr])
    have ht1 : o.kind.tmod 9 = 5 := HTM.out.trans hr
    have HR := Lib.hid hr
    clear hr
    go_wp2_with fail
    refine (turn_ok HP1.out HZ.out hg ht).mono ?_
    rintro e w1 ⟨p1, rfl, h1, ha1, hs1, hm1⟩
    have H1 := Lib.hid h1
    have HM1 := Lib.hid hm1
    have HA1 := Lib.hid ha1
    have HS1 := Lib.hid hs1
    clear ha1 hs1
    clear h1 hm1
    go_wp2
    go_ret
    exact ⟨p1, by rw [HE.out]; rfl, H1.out, by rw [HE.out]; exact HA1.out, HS1.out, (Mod.none_ KB.out _).then_ HM1.out⟩
  · have HE := Lib.hid (show doesM p.abs o = (drawM p.abs, nextN p.abs.state.toNat) by unfold doesM; simp [hr])
    have ht1 : o.kind.tmod 9 = 6 := HTM.out.trans hr
    have HR := Lib.hid hr
    clear hr
    go_wp2_with fail
    refine (draw_ok HP1.out).mono ?_
    rintro e w1 ⟨rfl, h1, hm1⟩
    have H1 := Lib.hid h1
    have HM1 := Lib.hid hm1
    clear h1 hm1
    go_wp2
    go_ret
    exact ⟨_, by rw [HE.out]; rfl, H1.out, by rw [HE.out]; rfl, rfl, HM.out HM1.out (.inl rfl)⟩
  · have HE := Lib.hid (show doesM p.abs o = (p.abs, 1) by unfold doesM; simp [hr])
    have ht1 : o.kind.tmod 9 = 7 := HTM.out.trans hr
    have HR := Lib.hid hr
    clear hr
    go_wp2
    go_ret
    exact ⟨p, by rw [HE.out]; rfl, HP1.out, by rw [HE.out], rfl, Mod.none_ KB.out _⟩
  · have HE := Lib.hid (show doesM p.abs o = (p.abs, 1) by unfold doesM; simp [hr])
    have ht1 : o.kind.tmod 9 = 8 := HTM.out.trans hr
    have HR := Lib.hid hr
    clear hr
    go_wp2
    go_ret
    exact ⟨p, by rw [HE.out]; rfl, HP1.out, by rw [HE.out], rfl, Mod.none_ KB.out _⟩
end Go.Proofs.Ytcmicmghnmklnaa.Ph
