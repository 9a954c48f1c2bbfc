/- The trail's Move: what it answers and leaves. Conditions: the bounds TOk, each variable once on the trail, reasons from -1 on, the memory. -/
import Derived.Test.YtbbpebfgdcidjaaUh
import Derived.BigQuiet
namespace Go.Proofs.Ytbbpebfgdcidjaa.Ta
open Go.RowKit Go.Proofs.Ytbbpebfgdcidjaa.Mem Go.Proofs.Ytbbpebfgdcidjaa.Sl Go.Proofs.Ytbbpebfgdcidjaa.Cl Go.Proofs.Ytbbpebfgdcidjaa.App Go.Shelf
open Go.Proofs.Ytbbpebfgdcidjaa.FnL (enc_at below_then)
set_option linter.unusedVariables false

def rsM (m : TM) (l : Int) : Int := (m.sp (varI l).toNat).2.2
def mvE (m : TM) (tt : List Int) : Int := if m.lits.any (fun l => badR tt (rsM m l)) = true then 160 else 0
/-- What is known of variables, the first k literals' reasons moved. -/
def mvSp (m : TM) (tt : List Int) (k : Nat) : Nat → Int × Int × Int := fun v => if (m.lits.take k).any (fun x => (varI x).toNat == v) = true then ((m.sp v).1, (m.sp v).2.1, movR tt (m.sp v).2.2) else m.sp v
def mvK (m : TM) (tt : List Int) (k : Nat) : TM := { m with sp := mvSp m tt k }
def mvM (m : TM) (tt : List Int) : TM := if m.lits.any (fun l => badR tt (rsM m l)) = true then m else mvK m tt m.lits.length
theorem mvK_zero (m : TM) (tt : List Int) : mvK m tt 0 = m := by
  have e : mvSp m tt 0 = m.sp := by funext v; unfold mvSp; simp
  unfold mvK; rw [e]
def Once (m : TM) : Prop := ∀ i j (hi : i < m.lits.length) (hj : j < m.lits.length), (varI m.lits[i]).toNat = (varI m.lits[j]).toNat → i = j
theorem mvSp_at {m : TM} {tt : List Int} (ho : Once m) {k : Nat} (hk : k < m.lits.length) : mvSp m tt k (varI m.lits[k]).toNat = m.sp (varI m.lits[k]).toNat := by
  unfold mvSp
  rw [if_neg]
  intro h
  obtain ⟨x, hx, e⟩ := List.any_eq_true.1 h
  obtain ⟨i, hi, rfl⟩ := List.getElem_of_mem hx
  rw [List.length_take] at hi
  rw [List.getElem_take, beq_iff_eq] at e
  have := ho i k (by omega) hk e
  omega
theorem mvSp_next {m : TM} {tt : List Int} (ho : Once m) {k : Nat} (hk : k < m.lits.length) {a b c : Int} (he : m.sp (varI m.lits[k]).toNat = (a, b, c)) : upd (mvSp m tt k) (varI m.lits[k]).toNat (a, b, movR tt c) = mvSp m tt (k + 1) := by
  funext v
  unfold upd
  by_cases e : v = (varI m.lits[k]).toNat
  · subst e
    rw [if_pos rfl]
    unfold mvSp
    rw [if_pos (by rw [List.take_succ_eq_append_getElem hk, List.any_append]; simp), he]
  · rw [if_neg e]
    unfold mvSp
    rw [List.take_succ_eq_append_getElem hk, List.any_append]
    have : ([m.lits[k]].any fun x => (varI x).toNat == v) = false := by simp; omega
    rw [this, Bool.or_false]
theorem mvSp_keep {m : TM} {tt : List Int} (ho : Once m) {k : Nat} (hk : k < m.lits.length) {a b c : Int} (he : m.sp (varI m.lits[k]).toNat = (a, b, c)) (hc : movR tt c = c) : mvSp m tt k = mvSp m tt (k + 1) := by
  rw [← mvSp_next ho hk he, hc]
  funext v
  unfold upd
  by_cases e : v = (varI m.lits[k]).toNat
  · subst e; rw [if_pos rfl, mvSp_at ho hk, he]
  · rw [if_neg e]
theorem upd_keep {sp : Nat → Int × Int × Int} {v : Nat} {x : Int × Int × Int} (h : sp v = x) : upd sp v x = sp := by
  funext u; unfold upd; split
  · subst_vars; rfl
  · rfl
theorem Sp.set1 {w : World} {gs N : Nat} {sp : Nat → Int × Int × Int} (h : Sp w gs N sp) {v : Nat} (hv : v ≤ N) (a b c z : Int) (he : sp v = (a, b, c)) :
    Sp (w.setCell ⟨gs, v * 3 + 2, none⟩ (.int .i64 z)) gs N (upd sp v (a, b, z)) := by
  obtain ⟨cs, h1, h2, h3⟩ := h
  refine ⟨_, h1.set_ (v * 3 + 2) _, by simpa using h2, fun u hu => ?_⟩
  have h4 := h3 u hu
  simp only [Array.getElem?_setIfInBounds, h2]
  unfold upd
  by_cases e : u = v
  · subst e
    rw [if_pos rfl]
    rw [he] at h4
    refine ⟨?_, ?_, ?_⟩
    · rw [if_neg (by omega)]; exact h4.1
    · rw [if_neg (by omega)]; exact h4.2.1
    · rw [if_pos rfl, if_pos (by omega)]
  · rw [if_neg e]
    refine ⟨?_, ?_, ?_⟩
    · rw [if_neg (by omega)]; exact h4.1
    · rw [if_neg (by omega)]; exact h4.2.1
    · rw [if_neg (by omega)]; exact h4.2.2
theorem TrS.setSp {w : World} {base g : Nat} {m : TM} {q : TQ} (h : TrS w base g m q) {v : Nat} (hv : v ≤ m.N) {a b c : Int} (z : Int) (he : m.sp v = (a, b, c)) :
    TrS (w.setCell ⟨q.gs, v * 3 + 2, none⟩ (.int .i64 z)) base g { m with sp := upd m.sp v (a, b, z) } q ∧ TStep g q q w (w.setCell ⟨q.gs, v * 3 + 2, none⟩ (.int .i64 z)) := by
  have hm : Mem.Mod (fun i => i = q.gs) w (w.setCell ⟨q.gs, v * 3 + 2, none⟩ (.int .i64 z)) := (Mem.Mod.refl (fun i => i = q.gs) w).setCell (p := ⟨q.gs, v * 3 + 2, none⟩) (.inl rfl) _
  refine ⟨⟨h.blk.mod hm h.ng, h.lits.mod hm (fun i _ e hi => h.nl.2 (by rw [e, hi])), h.starts.mod hm (fun i _ e hi => h.nt.2 (by rw [e, hi])), Sp.set1 h.spots hv a b c z he, h.bg, h.bs⟩, hm.mono fun i _ e => .inr (.inl e), fun _ _ h => h⟩
def MoveR (w : World) (base g : Nat) (m : TM) (q : TQ) (tt : List Int) (e : Ending) (w' : World) : Prop :=
  e = .returned (.int .i64 (mvE m tt)) ∧ TrS w' base g (mvM m tt) q ∧ TStep g q q w w'
set_option maxRecDepth 100000 in
theorem move_any {base g : Nat} {m : TM} {q : TQ} {w : World} (h : TrS w base g m q) (ok : TOk m) (ho : Once m) (hrs : ∀ x, x ∈ m.lits → -1 ≤ rsM m x) (B : Option Addr) (n cb : Nat) (tt : List Int) (hn : n = tt.length) (hr : RdV w B (tt.map (Value.int .i64))) (hnx : n ≤ 9223372036854775807)
    (hap : ∀ b off, B = some ⟨b, off, none⟩ → ¬ mine g q b) : Calls Try.prog 27 #[.pointer (some ⟨g, 0, none⟩), .slice B n cb] w fun e w' => MoveR w base g m q tt e w' := by
  have H := Lib.hid h
  have OK := Lib.hid ok
  have HO := Lib.hid ho
  have HRS := Lib.hid hrs
  have HRD := Lib.hid hr
  have HAP := Lib.hid hap
  have HTN := Lib.hid hn
  have hln := ok.ln
  have hNb := ok.N
  have HLB := Lib.hid ok.lb
  have HC0 := Lib.hid (fun W (hb : Below w.heap.size w W) => (h.below hb).blk.cell 0)
  have HC1 := Lib.hid (fun W (hb : Below w.heap.size w W) => (h.below hb).blk.cell 1)
  have c0 : w.cell? ⟨g, 0, none⟩ = some (.slice q.lA m.lits.length q.lc) := h.blk.cell 0
  clear h ok ho hrs hr hap hn
  generalize hL : m.lits.length = L at *
  have HL := Lib.hid hL
  clear hL
  go_enter Try.func27, Try.ntmps27
  go_wp2_with fail
  go_loopw [18] (fun i wr => ∃ k : Nat, k ≤ L ∧ i = .int .i64 k ∧ (m.lits.take k).any (fun l => badR tt (rsM m l)) = false ∧ Below w.heap.size w wr) (fun i _ => L - (intOf i).toNat)
  case atStart => exact ⟨0, Nat.zero_le _, rfl, rfl, Below.refl _ _⟩
  case round =>
    clear c0
    obtain ⟨k, hk, rfl, hf, hb⟩ := hrel
    have HF := Lib.hid hf
    have HB := Lib.hid hb
    clear hf hb
    by_cases hlt : k < L
    · have hkl : k < m.lits.length := by rw [HL.out]; exact hlt
      obtain ⟨b, ha, hc0⟩ := Own.here (H.out.below HB.out).lits hkl
      have hb := HLB.out _ (List.getElem_mem hkl)
      have HBAD := Lib.hid (fun (hh : badR tt (rsM m m.lits[k]) = true) => (show m.lits.any (fun l => badR tt (rsM m l)) = true from List.any_eq_true.2 ⟨_, List.getElem_mem hkl, hh⟩))
      have HGOOD := Lib.hid (fun (hh : badR tt (rsM m m.lits[k]) = false) => (show (m.lits.take (k + 1)).any (fun l => badR tt (rsM m l)) = false from by rw [List.take_succ_eq_append_getElem hkl, List.any_append, HF.out]; simp [hh]))
      have HDN := Lib.hid (show ∀ w', (m.lits.any (fun l => badR tt (rsM m l)) = true) → Below w.heap.size w w' → MoveR w base g m q tt (.returned (.int .i64 160)) w' from fun w' hany hbl => ⟨by unfold mvE; rw [if_pos hany], by unfold mvM; rw [if_pos hany]; exact H.out.below hbl, TStep.of_below _ _ hbl⟩)
      have HR1 := HRS.out _ (List.getElem_mem hkl)
      have HRE := Lib.hid (show rsM m m.lits[k] = (m.sp (varI m.lits[k]).toNat).2.2 from rfl)
      generalize m.lits[k]'hkl = x at *
      have HVC := Lib.hid (fun W => Var_any x hb.1.1 hb.1.2 W)
      obtain ⟨_, hv1, hv2⟩ := hb
      obtain ⟨vn, hvn⟩ : ∃ vn : Nat, varI x = vn := ⟨(varI x).toNat, by omega⟩
      rw [hvn] at HVC hv1 hv2 HRE
      rw [Int.toNat_natCast] at HRE
      have hvm : vn ≤ m.N := by omega
      have hs2 := ((H.out.below HB.out).spots.cell hvm).2.2
      rw [← HRE.out] at hs2
      have hsb := OK.out.sp vn hvm
      rw [← HRE.out] at hsb
      have c1 := HC1.out wr HB.out
      have c1 : wr.cell? ⟨g, 1, none⟩ = some (.slice (some ⟨q.gs, 0, none⟩) (m.N + 1) (m.N + 1)) := c1
      generalize rsM m x = r at *
      obtain ⟨_, _, hr1, hr2⟩ := hsb
      rw [ha]
      clear hkl HRE hvn ha HC0 HC1
      generalize m.N = N at *
      have hvi : (vn : Int) < (N : Int) + 1 := by omega
      have hvk : vn < N + 1 := by omega
      have hv0 : (0 : Int) ≤ (vn : Int) := Int.natCast_nonneg _
      by_cases p1 : r = -1
      · have HE := Lib.hid (HGOOD.out (by unfold badR; rw [p1]; rfl))
        subst p1
        clear HBAD HGOOD
        go_wp2_with fail
        go_quiet ((go_at_call 13; exact Calls.quiet_of_same ((HVC.out _).mono fun _ _ h => ⟨h.1, h.2.symm⟩)))
        go_wp2
        go_roundw
        case rel => exact ⟨k + 1, by omega, by go_num, HE.out, belowN HB.out _⟩
        case measure => simp [intOf]; omega
      · have p1' : (r == -1) = false := by simpa using p1
        have p1'' : (r != -1) = true := by simpa using p1
        obtain ⟨rn, rfl⟩ : ∃ rn : Nat, r = rn := ⟨r.toNat, by omega⟩
        by_cases p2 : (n : Int) ≤ (rn : Int)
        · have HD := Lib.hid (HBAD.out (by unfold badR; rw [← HTN.out]; simp; omega))
          clear HBAD HGOOD
          have p3 : n ≤ rn := by omega
          go_wp2_with fail
          go_quiet ((go_at_call 13; exact Calls.quiet_of_same ((HVC.out _).mono fun _ _ h => ⟨h.1, h.2.symm⟩)))
          go_wp2
          go_ret
          exact HDN.out _ HD.out (belowN HB.out _)
        · have hrl : rn < tt.length := by rw [← HTN.out]; omega
          have p3 : ¬ n ≤ rn := by omega
          have p4 : (rn : Int) < (n : Int) := by omega
          obtain ⟨bt, ot, eB, _, hct⟩ := RdV.at_ (RdV.below HRD.out HB.out) (enc_at (enc := Value.int .i64) hrl)
          subst eB
          have HB2 := Lib.hid (show badR tt (rn : Int) = decide (tt[rn] < 0) by
            unfold badR
            rw [Int.toNat_natCast, List.getD_eq_getElem?_getD, List.getElem?_eq_getElem hrl, ← HTN.out]
            simp; omega)
          generalize tt[rn]'hrl = z at *
          clear hrl
          by_cases p5 : z < 0
          · have HD := Lib.hid (HBAD.out (by rw [HB2.out]; simp [p5]))
            clear HBAD HGOOD
            go_wp2_with fail
            go_quiet ((go_at_call 13; exact Calls.quiet_of_same ((HVC.out _).mono fun _ _ h => ⟨h.1, h.2.symm⟩)))
            go_wp2
            go_ret
            exact HDN.out _ HD.out (belowN HB.out _)
          · have HE := Lib.hid (HGOOD.out (by rw [HB2.out]; simp [p5]))
            clear HBAD HGOOD
            go_wp2_with fail
            go_quiet ((go_at_call 13; exact Calls.quiet_of_same ((HVC.out _).mono fun _ _ h => ⟨h.1, h.2.symm⟩)))
            go_wp2
            go_roundw
            case rel => exact ⟨k + 1, by omega, by go_num, HE.out, belowN HB.out _⟩
            case measure => simp [intOf]; omega
    · have HNO := Lib.hid (show m.lits.any (fun l => badR tt (rsM m l)) = false by have := HF.out; rwa [List.take_of_length_le (by rw [HL.out]; omega)] at this)
      have c0 : wr.cell? ⟨g, 0, none⟩ = some (.slice q.lA L q.lc) := HC0.out wr HB.out
      have hkL : k = L := by omega
      have HKL := Lib.hid hkL
      clear hkL
      have HME := Lib.hid (show mvE m tt = 0 ∧ mvM m tt = mvK m tt L from ⟨by unfold mvE; rw [if_neg (by rw [HNO.out]; decide)], by
        unfold mvM; rw [if_neg (by rw [HNO.out]; decide), HL.out]⟩)
      have HGD := Lib.hid (fun (j : Nat) (hj : j < m.lits.length) => (show badR tt (rsM m m.lits[j]) = false from by
        rcases hq : badR tt (rsM m m.lits[j]) with _ | _
        · rfl
        · exact absurd (List.any_eq_true.2 ⟨_, List.getElem_mem hj, hq⟩) (by rw [HNO.out]; decide)))
      have H1 := Lib.hid (H.out.below HB.out)
      go_wp2_with fail
      clear HNO HF hk hlt HKL
      go_loopw [52] (fun i wr => ∃ k : Nat, k ≤ L ∧ i = .int .i64 k ∧ TrS wr base g (mvK m tt k) q ∧ TStep g q q w wr) (fun i _ => L - (intOf i).toNat)
      case atStart => exact ⟨0, Nat.zero_le _, rfl, by rw [mvK_zero]; exact H1.out, TStep.of_below _ _ HB.out⟩
      case round =>
        clear c0
        obtain ⟨k, hk, rfl, hD, hS⟩ := hrel
        have HD := Lib.hid hD
        have HS := Lib.hid hS
        clear hD hS
        by_cases hlt : k < L
        · have hkl : k < m.lits.length := by rw [HL.out]; exact hlt
          obtain ⟨b, ha, hc00⟩ := Own.here HD.out.lits hkl
          have hc0 : wr.cell? ⟨b, k, none⟩ = some (.int .i32 (m.lits[k]'hkl)) := hc00
          clear hc00
          have hb := HLB.out _ (List.getElem_mem hkl)
          have HGK := Lib.hid (HGD.out k hkl)
          have HR1 := HRS.out _ (List.getElem_mem hkl)
          have hsv := mvSp_at (tt := tt) HO.out hkl
          obtain ⟨sa, sb, sc, hsp⟩ : ∃ sa sb sc, m.sp (varI m.lits[k]).toNat = (sa, sb, sc) := ⟨_, _, _, rfl⟩
          have HNX := Lib.hid (mvSp_next (tt := tt) HO.out hkl hsp)
          have HKP := Lib.hid (fun hc => mvSp_keep (tt := tt) HO.out hkl hsp hc)
          rw [show rsM m m.lits[k] = (m.sp (varI m.lits[k]).toNat).2.2 from rfl, hsp] at HR1 HGK
          dsimp only at HR1 HGK
          rw [hsp] at hsv
          generalize m.lits[k]'hkl = x at *
          have HVC := Lib.hid (fun W => Var_any x hb.1.1 hb.1.2 W)
          obtain ⟨_, hv1, hv2⟩ := hb
          obtain ⟨vn, hvn⟩ : ∃ vn : Nat, varI x = vn := ⟨(varI x).toNat, by omega⟩
          rw [hvn] at HVC hv1 hv2 hsp hsv HNX
          rw [Int.toNat_natCast] at hsp hsv HNX
          have hvm : vn ≤ m.N := by omega
          have hs2 : wr.cell? ⟨q.gs, vn * 3 + 2, none⟩ = some (.int .i64 (mvSp m tt k vn).2.2) := (HD.out.spots.cell hvm).2.2
          rw [hsv] at hs2
          dsimp only at hs2
          have hf2 : wr.frozen? ⟨q.gs, vn * 3 + 2, none⟩ = false := HD.out.spots.frozen _
          have hsb := OK.out.sp vn hvm
          rw [hsp] at hsb
          have c1 : wr.cell? ⟨g, 1, none⟩ = some (.slice (some ⟨q.gs, 0, none⟩) (m.N + 1) (m.N + 1)) := HD.out.blk.cell 1
          have HST := Lib.hid (fun (j : Nat) (z : Int) => TrS.setSp (m := mvK m tt k) (w := wr.drewN j) (HD.out.drewN j) hvm z hsv)
          obtain ⟨_, _, hr1, hr2⟩ := hsb
          rw [ha]
          clear hkl hvn ha HC0 HC1 hsp hsv
          have HNM := Lib.hid (show m.N = m.N from rfl)
          generalize hN0 : m.N = N at *
          have hvi : (vn : Int) < (N : Int) + 1 := by omega
          have hvk : vn < N + 1 := by omega
          have hv0 : (0 : Int) ≤ (vn : Int) := Int.natCast_nonneg _
          clear hN0
          by_cases p1 : sc = -1
          · have HE := Lib.hid (HKP.out (by unfold movR; rw [p1, if_neg (by decide)]))
            have HDN := Lib.hid (fun j => (show TrS (wr.drewN j) base g (mvK m tt (k + 1)) q from by unfold mvK; rw [← HE.out]; exact HD.out.drewN j))
            have HSN := Lib.hid (fun j => HS.out.trans (TStep.of_below g q (belowN (Below.refl wr.heap.size wr) j)))
            subst p1
            clear HNX HKP HGK
            go_wp2_with fail
            go_quiet ((go_at_call 13; exact Calls.quiet_of_same ((HVC.out _).mono fun _ _ h => ⟨h.1, h.2.symm⟩)))
            go_wp2
            go_roundw
            case rel => exact ⟨k + 1, by omega, by go_num, HDN.out _, HSN.out _⟩
            case measure => simp [intOf]; omega
          · have p1' : (sc == -1) = false := by simpa using p1
            have p1'' : (sc != -1) = true := by simpa using p1
            obtain ⟨rn, rfl⟩ : ∃ rn : Nat, sc = rn := ⟨sc.toNat, by omega⟩
            have hrl : rn < tt.length := by
              have := HGK.out
              unfold badR at this
              simp only [Bool.and_eq_false_iff, Bool.or_eq_false_iff, decide_eq_false_iff_not] at this
              omega
            have p4 : (rn : Int) < (n : Int) := by have := HTN.out; omega
            have HRD2 := Lib.hid (show RdV wr B (tt.map (Value.int .i64)) from HRD.out.mod HS.out.md (fun bb oo e => HAP.out bb oo e))
            obtain ⟨bt, ot, eB, _, hct⟩ := RdV.at_ HRD2.out (enc_at (enc := Value.int .i64) hrl)
            subst eB
            have hMV : movR tt (rn : Int) = tt[rn] := by
              unfold movR
              rw [if_pos (by omega), Int.toNat_natCast, List.getD_eq_getElem?_getD, List.getElem?_eq_getElem hrl]; rfl
            rw [hMV] at HNX
            generalize tt[rn]'hrl = z at *
            have HDN := Lib.hid (fun j => (show TrS ((wr.drewN j).setCell ⟨q.gs, vn * 3 + 2, none⟩ (.int .i64 z)) base g (mvK m tt (k + 1)) q from by have := (HST.out j z).1; unfold mvK; rw [← HNX.out]; exact this))
            have HSN := Lib.hid (fun j => (HS.out.trans (TStep.of_below g q (belowN (Below.refl wr.heap.size wr) j))).trans (HST.out j z).2)
            clear hrl HGK HNX HKP HST hMV
            go_wp2_with fail
            go_quiet ((go_at_call 13; exact Calls.quiet_of_same ((HVC.out _).mono fun _ _ h => ⟨h.1, h.2.symm⟩)))
            go_wp2
            go_roundw
            case rel => exact ⟨k + 1, by omega, by go_num, HDN.out _, HSN.out _⟩
            case measure => simp [intOf]; omega
        · have hkL : k = L := by omega
          have HFIN := Lib.hid (show MoveR w base g m q tt (.returned (.int .i64 0)) wr from ⟨by rw [HME.out.1], by rw [HME.out.2, ← hkL]; exact HD.out, HS.out⟩)
          clear hkL
          go_wp2
          go_ret
          exact HFIN.out
end Go.Proofs.Ytbbpebfgdcidjaa.Ta
