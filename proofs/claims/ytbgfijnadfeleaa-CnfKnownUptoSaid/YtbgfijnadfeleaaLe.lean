/- CnfClauses: the walk. Condition: the memory; a nil slice has capacity 0. -/
import Derived.Test.YtbgfijnadfeleaaLb
namespace Go.Proofs.Ytbgfijnadfeleaa.La
open Go.RowKit Go.Proofs.Ytbgfijnadfeleaa.Mem Go.Proofs.Ytbgfijnadfeleaa.Sl Go.Proofs.Ytbgfijnadfeleaa.Cl Go.Proofs.Ytbgfijnadfeleaa.App Go.Proofs.Ytbgfijnadfeleaa.Cm Go.Shelf
open Go.Proofs.Ytbgfijnadfeleaa.FnL (Pred enc_at below_then)
open Go.Proofs.Ytbgfijnadfeleaa.Cp (normL bothL InR)
open Go.Proofs.Ytbgfijnadfeleaa.Ch (subB sameB Same_any rSame_any Sub_any rSub_any)
open Go.Proofs.Ytbgfijnadfeleaa.Cs (Normal_any)
open Go.Proofs.Ytbgfijnadfeleaa.Cy (rNormal_any)
open Go.Proofs.Ytbgfijnadfeleaa.Cx (Resolve_any rResolve_any resN resB resE resL resOk cl_own)
set_option linter.unusedVariables false

theorem eqB_rfl (l : List Int) : eqB l l = true := decide_eq_true rfl
/-- Cells of the call's own that may be written. -/
def Wr (w : World) (base : Nat) (A : Option Addr) (n : Nat) : Prop := ∃ ls : List Int, Fro w base A n (LI ls)
theorem Wr.at_ {w : World} {base : Nat} {A : Option Addr} {n k : Nat} (h : Wr w base A n) (hk : k < n) : ∃ g z, A = some ⟨g, 0, none⟩ ∧ base ≤ g ∧ g < w.heap.size ∧ w.frozen? ⟨g, k, none⟩ = false ∧ w.cell? ⟨g, k, none⟩ = some (.int .i32 z) := by
  obtain ⟨ls, hF⟩ := h
  obtain ⟨hn, ⟨_, hx⟩ | ⟨g, h1, h2, t, rest, h3⟩⟩ := hF
  · rw [hx] at hn; simp at hn; omega
  · have hl : k < ls.length := by
      have h5 : n = ls.length := by simpa [LI] using hn
      omega
    refine ⟨g, ls[k], h1, h2, h3.lt, h3.frozen k, ?_⟩
    rw [h3.cell k]
    simp [LI, List.getElem?_append_left, hl]
theorem Wr.set_ {w : World} {base g n k : Nat} (h : Wr w base (some ⟨g, 0, none⟩) n) (hk : k < n) (u : Int) : Wr (w.setCell ⟨g, k, none⟩ (.int .i32 u)) base (some ⟨g, 0, none⟩) n := by
  obtain ⟨ls, hF⟩ := h
  exact ⟨ls.set k u, by rw [LI, List.map_set]; exact hF.set_ k hk _⟩
theorem Wr.mod {S : Nat → Prop} {w w' : World} {base n : Nat} {A : Option Addr} (h : Wr w base A n) (hm : Mem.Mod S w w') (hS : ∀ i, base ≤ i → ¬ S i) : Wr w' base A n := by
  obtain ⟨ls, hF⟩ := h
  exact ⟨ls, hF.mod hm fun i hi _ => hS i hi⟩
theorem Wr.below {w w' : World} {base n : Nat} {A : Option Addr} (h : Wr w base A n) (hb : Below w.heap.size w w') : Wr w' base A n := by
  obtain ⟨ls, hF⟩ := h
  exact ⟨ls, hF.below hb⟩

set_option maxRecDepth 100000 in
theorem clauses_any {B : Nat} {w : World} (hB : B ≤ w.heap.size) (x : CV) (hx : ClOk B w x) (hxn : x.A = none → x.c = 0) (y : CV) (hy : ClOk B w y) (hyn : y.A = none → y.c = 0) (v : Int) :
    Calls Try.prog 4 #[x.v, y.v, .int .i64 v] w fun e w' => e = .returned (.bool true) ∧ Below w.heap.size w w' := by
  have HX := Lib.hid hx
  have HY := Lib.hid hy
  have HS := Lib.hid hB
  obtain ⟨a1, n1, c1, l1⟩ := x
  obtain ⟨a2, n2, c2, l2⟩ := y
  have HXN := Lib.hid hxn
  have HYN := Lib.hid hyn
  have hm1 : n1 ≤ 9223372036854775807 := hx.mx
  have hm2 : n2 ≤ 9223372036854775807 := hy.mx
  have HL1 := Lib.hid (show n1 = l1.length from hx.ln)
  have HL2 := Lib.hid (show n2 = l2.length from hy.ln)
  have HI1 := Lib.hid (show InR l1 from hx.lb)
  have HI2 := Lib.hid (show InR l2 from hy.lb)
  dsimp only [CV.v]
  clear hx hy hB hxn hyn
  by_cases p1 : 300 < n1
  · go_enter Try.func4, Try.ntmps4
    go_wp2
    go_ret
    exact ⟨rfl, Below.refl _ _⟩
  by_cases p2 : 300 < n2
  · go_enter Try.func4, Try.ntmps4
    go_wp2
    go_ret
    exact ⟨rfl, Below.refl _ _⟩
  have q1 : n1 ≤ 300 := by omega
  have q2 : n2 ≤ 300 := by omega
  clear hm1 hm2
  have CA := Lib.hid fun (W : World) (hb : Below w.heap.size w W) => HX.out.below (hb.mono HS.out)
  have CB := Lib.hid fun (W : World) (hb : Below w.heap.size w W) => HY.out.below (hb.mono HS.out)
  have CS := Lib.hid fun (W : World) (hb : Below w.heap.size w W) => Nat.le_trans HS.out hb.size
  have HC := Lib.hid (own_any (w := w) a1 n1 c1 l1 HL1.out (HX.out.rd.rd HS.out) HXN.out (by omega))
  go_enter Try.func4, Try.ntmps4
  go_wp2_with fail
  refine HC.out.mono ?_
  rintro e w1 ⟨A1, d1, rfl, hO1, hb1⟩
  have HO1 := Lib.hid hO1
  have HB1 := Lib.hid hb1
  clear hO1 hb1 HC
  have HC := Lib.hid (own_any (w := w1) a2 n2 c2 l2 HL2.out ((CB.out w1 HB1.out).rd.rd (CS.out w1 HB1.out)) HYN.out (by omega))
  go_wp2_with fail
  refine HC.out.mono ?_
  rintro e w2 ⟨A2, d2, rfl, hO2, hb2⟩
  have CC := Lib.hid fun (W : World) (hb : Below w2.heap.size w2 W) => (cl_own (hO2) HI2.out (by omega)).below hb
  have CD := Lib.hid fun (W : World) (hb : Below w2.heap.size w2 W) => (cl_own (HO1.out.below hb2) HI1.out (by omega)).below hb
  have HB2 := Lib.hid (below_then HB1.out hb2 HB1.out.size)
  have BW := Lib.hid fun (W : World) (hb : Below w2.heap.size w2 W) => below_then HB2.out hb HB2.out.size
  clear hO2 hb2 HC HO1
  have HC := Lib.hid (Normal_any (w := w2) (B := w2.heap.size) ⟨A1, n1, d1, l1⟩ (CD.out w2 (Below.refl _ _)) (Nat.le_refl _) (by show n1 ≤ _; omega))
  have HCD := Lib.hid (fun W hb => rNormal_any (w := W) (B := B) ⟨a1, n1, c1, l1⟩ (CA.out W hb) (CS.out W hb) (by show n1 ≤ _; omega))
  have HRS := Lib.hid (fun W (hb : Below w2.heap.size w2 W) => Resolve_any (w := W) (B := w2.heap.size) ⟨A1, n1, d1, l1⟩ ⟨A2, n2, d2, l2⟩ v (CD.out W hb) (CC.out W hb) hb.size (by show n1 ≤ _; omega) (by show n2 ≤ _; omega))
  have HRR := Lib.hid (fun W hb => rResolve_any (w := W) (B := B) ⟨a1, n1, c1, l1⟩ ⟨a2, n2, c2, l2⟩ v (CA.out W hb) (CB.out W hb) (CS.out W hb) (by show n1 ≤ _; omega) (by show n2 ≤ _; omega))
  have HSM := Lib.hid (fun W (hb : Below w2.heap.size w2 W) => Same_any (w := W) (B := w2.heap.size) ⟨A1, n1, d1, l1⟩ ⟨A2, n2, d2, l2⟩ (CD.out W hb) (CC.out W hb) hb.size)
  have HSR := Lib.hid (fun W hb => rSame_any (w := W) (B := B) ⟨a1, n1, c1, l1⟩ ⟨a2, n2, c2, l2⟩ (CA.out W hb) (CB.out W hb) (CS.out W hb))
  have HUM := Lib.hid (fun W (hb : Below w2.heap.size w2 W) => Sub_any (w := W) (B := w2.heap.size) ⟨A1, n1, d1, l1⟩ ⟨A2, n2, d2, l2⟩ (CD.out W hb) (CC.out W hb) hb.size)
  have HUR := Lib.hid (fun W hb => rSub_any (w := W) (B := B) ⟨a1, n1, c1, l1⟩ ⟨a2, n2, c2, l2⟩ (CA.out W hb) (CB.out W hb) (CS.out W hb))
  have hlm : (normL l1).length ≤ 300 := Nat.le_trans (Cp.norm_len l1) (by have := HL1.out; omega)
  have hlr : (resN l1 l2 v).length ≤ 1000 := by
    unfold resN
    split
    · refine Nat.le_trans (Cp.norm_len _) ?_
      unfold resL
      rw [List.length_append]
      have := Cw.noL_len l1 v; have := Cw.noL_len l2 (-v); have := HL1.out; have := HL2.out
      omega
    · simp
  dsimp only [CV.v] at HC HCD HRS HRR HSM HSR HUM HUR
  have HLI := Lib.hid (show ∀ l : List Int, l.length = (LI l).length from fun l => by simp [LI])
  generalize normL l1 = dn at *
  generalize bothL l1 = b1 at *
  generalize resN l1 l2 v = rn at *
  generalize resB l1 l2 v = b2 at *
  generalize resE l1 l2 v = b3 at *
  generalize sameB l1 l2 = b4 at *
  generalize subB l1 l2 = b5 at *
  generalize hdm : dn.length = m at *
  generalize hrm : rn.length = r at *
  have HDM := Lib.hid hdm.symm
  have HRM := Lib.hid hrm.symm
  clear hdm hrm
  go_wp2_with fail
  refine HC.out.mono ?_
  rintro e w3 ⟨⟨X, rfl, hF⟩, hb3⟩
  have HF := Lib.hid hF
  have HB3 := Lib.hid hb3
  clear hF hb3 HC
  have HC := Lib.hid (HCD.out w3 (BW.out w3 HB3.out))
  go_wp2_with fail
  refine HC.out.mono ?_
  rintro e w4 ⟨⟨Y, yc, rfl, hG⟩, hb4⟩
  have HF4 := Lib.hid (HF.out.below hb4)
  have HG := Lib.hid hG.rd
  have HB4 := Lib.hid (below_then HB3.out hb4 HB3.out.size)
  clear hG hb4 HC HF HCD
  have HC := Lib.hid (HRS.out w4 HB4.out)
  go_wp2_with fail
  refine HC.out.mono ?_
  rintro e w5 ⟨⟨Pa, rfl, hP⟩, hb5⟩
  have HP := Lib.hid hP
  have HF5 := Lib.hid (HF4.out.below hb5)
  have HG5 := Lib.hid (HG.out.below hb5)
  have HB5 := Lib.hid (below_then HB4.out hb5 HB4.out.size)
  have HXG := Lib.hid (fun g (h : X = some ⟨g, 0, none⟩) => (show m = 0 ∨ g < w4.heap.size from by
    obtain ⟨hn, ⟨h1, _⟩ | ⟨g', h1, _, _, _, h3⟩⟩ := HF4.out
    · rw [h1] at h; cases h
    · rw [h] at h1; cases h1; exact .inr h3.lt))
  clear hP hb5 HC HF4 HG HRS
  have HC := Lib.hid (HRR.out w5 (BW.out w5 HB5.out))
  go_wp2_with fail
  refine HC.out.mono ?_
  rintro e w6 ⟨⟨Qa, qc, rfl, hQ⟩, hb6⟩
  have HQ := Lib.hid hQ.rd
  have HP6 := Lib.hid (HP.out.below hb6)
  have HF6 := Lib.hid (HF5.out.below hb6)
  have HG6 := Lib.hid (HG5.out.below hb6)
  have HB6 := Lib.hid (below_then HB5.out hb6 HB5.out.size)
  clear hQ hb6 HC HF5 HG5 HRR HP
  have HC := Lib.hid (same_any (w := w6) X m m dn HDM.out (by omega) HF6.out.rd Y m yc dn HDM.out (by omega) HG6.out)
  rw [eqB_rfl] at HC
  go_wp2_with fail
  refine HC.out.mono ?_
  rintro e w7 ⟨rfl, hb7⟩
  have HQ7 := Lib.hid (HQ.out.below hb7)
  have HP7 := Lib.hid (HP6.out.below hb7)
  have HF7 := Lib.hid (HF6.out.below hb7)
  have HB7 := Lib.hid (below_then HB6.out hb7 HB6.out.size)
  clear hb7 HC HQ HP6 HF6 HG6
  have HC := Lib.hid (same_any (w := w7) Pa r r rn HRM.out (by omega) HP7.out.rd Qa r qc rn HRM.out (by omega) HQ7.out)
  rw [eqB_rfl] at HC
  go_wp2_with fail
  refine HC.out.mono ?_
  rintro e w8 ⟨rfl, hb8⟩
  have HP8 := Lib.hid (HP7.out.below hb8)
  have HF8 := Lib.hid (HF7.out.below hb8)
  have HB8 := Lib.hid (below_then HB7.out hb8 HB7.out.size)
  clear hb8 HC HP7 HF7 HQ7
  have HC := Lib.hid (HSM.out w8 HB8.out)
  go_wp2_with fail
  refine HC.out.mono ?_
  rintro e w9 ⟨rfl, hb9⟩
  have HP9 := Lib.hid (HP8.out.below hb9)
  have HF9 := Lib.hid (HF8.out.below hb9)
  have HB9 := Lib.hid (below_then HB8.out hb9 HB8.out.size)
  clear hb9 HC HP8 HF8 HSM
  have HC := Lib.hid (HSR.out w9 (BW.out w9 HB9.out))
  go_wp2_with fail
  refine HC.out.mono ?_
  rintro e w9' ⟨rfl, rfl⟩
  clear HC HSR
  have HC := Lib.hid (HUM.out w9 HB9.out)
  go_wp2_with fail
  refine HC.out.mono ?_
  rintro e wx ⟨rfl, hbx⟩
  have HPX := Lib.hid (show Wr wx w4.heap.size Pa r from ⟨rn, HP9.out.below hbx⟩)
  have HFX := Lib.hid (show Wr wx w2.heap.size X m from ⟨dn, HF9.out.below hbx⟩)
  have HBX := Lib.hid (below_then HB9.out hbx HB9.out.size)
  clear hbx HC HP9 HF9 HUM
  have HC := Lib.hid (HUR.out wx (BW.out wx HBX.out))
  go_wp2_with fail
  refine HC.out.mono ?_
  rintro e wx' ⟨rfl, rfl⟩
  clear HC HUR
  go_wp2_with fail
  go_loopw [20] (fun i wr => ∃ k : Nat, k ≤ m ∧ i = .int .i64 k ∧ Wr wr w4.heap.size Pa r ∧ Wr wr w2.heap.size X m ∧ Below w2.heap.size w2 wr) (fun i _ => m - (intOf i).toNat)
  case atStart => exact ⟨0, Nat.zero_le _, rfl, HPX.out, HFX.out, HBX.out⟩
  case round =>
    clear HPX HFX HBX
    obtain ⟨k, hk, rfl, hp, hf, hb⟩ := hrel
    have HPX := Lib.hid hp
    have HFX := Lib.hid hf
    have HBX := Lib.hid hb
    clear hp hf hb
    by_cases hlt : k < m
    · obtain ⟨g, z, hg, hbg, _, hfz, hcs⟩ := HFX.out.at_ hlt
      have HGX := Lib.hid (HXG.out g hg)
      subst hg
      have HN1 := Lib.hid (HFX.out.set_ hlt 7)
      have HN2 := Lib.hid (show Below w2.heap.size w2 (wr.setCell ⟨g, k, none⟩ (.int .i32 7)) from HBX.out.setCell (p := ⟨g, k, none⟩) hbg _)
      have HN3 := Lib.hid (HPX.out.mod (Mem.Mod.setCell (Mem.Mod.refl (fun i => i = g) wr) (p := ⟨g, k, none⟩) (.inl rfl) (.int .i32 7)) (fun i hi e => by
        have := HGX.out; omega))
      clear hbg
      go_wp2
      go_roundw
      case rel => exact ⟨k + 1, by omega, by go_num, HN3.out, HN1.out, HN2.out⟩
      case measure => simp [intOf]; omega
    · rename World => wb
      go_wp2_with fail
      clear hlt hk
      go_loopw [21] (fun i wr => ∃ k : Nat, k ≤ r ∧ i = .int .i64 k ∧ Wr wr w4.heap.size Pa r ∧ Below w2.heap.size w2 wr) (fun i _ => r - (intOf i).toNat)
      case atStart => exact ⟨0, Nat.zero_le _, rfl, HPX.out, HBX.out⟩
      case round =>
        clear HPX HFX HBX
        obtain ⟨k, hk, rfl, hp, hb⟩ := hrel
        have HPX := Lib.hid hp
        have HBX := Lib.hid hb
        clear hp hb
        by_cases hlt : k < r
        · obtain ⟨g, z, hg, hbg, _, hfz, hcs⟩ := HPX.out.at_ hlt
          subst hg
          have HN1 := Lib.hid (HPX.out.set_ hlt 7)
          have HN2 := Lib.hid (show Below w2.heap.size w2 (wr.setCell ⟨g, k, none⟩ (.int .i32 7)) from HBX.out.setCell (p := ⟨g, k, none⟩) (Nat.le_trans HB4.out.size hbg) _)
          clear hbg
          go_wp2
          go_roundw
          case rel => exact ⟨k + 1, by omega, by go_num, HN1.out, HN2.out⟩
          case measure => simp [intOf]; omega
        · have HBW := Lib.hid (BW.out wr HBX.out)
          have HC := Lib.hid (same_any (w := wr) a1 n1 c1 l1 HL1.out (by omega) ((CA.out wr HBW.out).rd.rd (CS.out wr HBW.out)) A1 n1 d1 l1 HL1.out (by omega) ((CD.out wr HBX.out).rd.rd HBX.out.size))
          rw [eqB_rfl] at HC
          go_wp2_with fail
          refine HC.out.mono ?_
          rintro e u1 ⟨rfl, hu1⟩
          have HU1 := Lib.hid (below_then HBX.out hu1 HBX.out.size)
          clear hu1 HC
          have HBU := Lib.hid (BW.out u1 HU1.out)
          have HC := Lib.hid (same_any (w := u1) a2 n2 c2 l2 HL2.out (by omega) ((CB.out u1 HBU.out).rd.rd (CS.out u1 HBU.out)) A2 n2 d2 l2 HL2.out (by omega) ((CC.out u1 HU1.out).rd.rd HU1.out.size))
          rw [eqB_rfl] at HC
          go_wp2_with fail
          refine HC.out.mono ?_
          rintro e u2 ⟨rfl, hu2⟩
          have HU2 := Lib.hid (below_then HBU.out hu2 HBU.out.size)
          clear hu2 HC
          have HC := Lib.hid (works_any u2)
          go_wp2_with fail
          refine HC.out.mono ?_
          rintro e u3 ⟨rfl, hu3⟩
          have HU3 := Lib.hid (below_then HU2.out hu3 HU2.out.size)
          clear hu3 HC
          go_wp2
          go_ret
          exact ⟨rfl, HU3.out⟩
end Go.Proofs.Ytbgfijnadfeleaa.La
