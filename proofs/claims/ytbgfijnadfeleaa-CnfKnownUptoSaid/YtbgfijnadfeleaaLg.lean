/- CnfNormal: the plain law and the walk. Condition: the memory. -/
import Derived.Test.YtbgfijnadfeleaaLf
namespace Go.Proofs.Ytbgfijnadfeleaa.La
open Go.RowKit Go.Proofs.Ytbgfijnadfeleaa.Mem Go.Proofs.Ytbgfijnadfeleaa.Sl Go.Proofs.Ytbgfijnadfeleaa.Cl Go.Proofs.Ytbgfijnadfeleaa.App Go.Proofs.Ytbgfijnadfeleaa.Cm Go.Shelf
open Go.Proofs.Ytbgfijnadfeleaa.FnL (Pred enc_at below_then)
open Go.Proofs.Ytbgfijnadfeleaa.Cp (normL bothL InR mem_norm norm_eq ss_norm ltL)
open Go.Proofs.Ytbgfijnadfeleaa.Ch (hasB subB sameB Same_any)
open Go.Proofs.Ytbgfijnadfeleaa.Cs (Normal_any ltL_of)
open Go.Proofs.Ytbgfijnadfeleaa.Cx (cl_fro)
set_option linter.unusedVariables false

theorem norm_idem (l : List Int) : normL (normL l) = normL l := (norm_eq (ss_norm l) fun x => Iff.rfl).symm
theorem both_congr {a b : List Int} (h : ∀ x, x ∈ a ↔ x ∈ b) : bothL a = bothL b := by
  rw [Bool.eq_iff_iff]
  unfold bothL
  simp only [List.any_eq_true, Bool.and_eq_true, decide_eq_true_eq, List.contains_iff_mem]
  constructor
  · rintro ⟨x, h1, h2, h3⟩; exact ⟨x, (h x).1 h1, h2, (h _).1 h3⟩
  · rintro ⟨x, h1, h2, h3⟩; exact ⟨x, (h x).2 h1, h2, (h _).2 h3⟩
theorem both_norm (l : List Int) : bothL (normL l) = bothL l := both_congr (mem_norm l)
theorem sub_of {a b : List Int} (h : ∀ x, x ∈ a → x ∈ b) : subB a b = true := List.all_eq_true.2 fun x hx => List.contains_iff_mem.2 (h x hx)
theorem same_norm (l : List Int) : sameB l (normL l) = true := by
  unfold sameB
  rw [sub_of fun x => (mem_norm l x).2, sub_of fun x => (mem_norm l x).1]; rfl
theorem val_norm (m : List Bool) (l : List Int) : valB m (normL l) = valB m l := by
  rw [Bool.eq_iff_iff]
  exact ⟨valB_mono fun x => (mem_norm l x).1, valB_mono fun x => (mem_norm l x).2⟩
def fullB (n : Nat) (l : List Int) : Bool := l.all fun x => decide (1 ≤ varI x) && decide (varI x ≤ n)
theorem full_val {m : List Bool} {l : List Int} (hb : bothL l = true) (hf : fullB m.length l = true) : valB m l = true := by
  obtain ⟨x, hx, h1⟩ := List.any_eq_true.1 hb
  simp only [Bool.and_eq_true, decide_eq_true_eq, List.contains_iff_mem] at h1
  obtain ⟨h0, h2⟩ := h1
  have h3 := List.all_eq_true.1 hf x hx
  simp only [Bool.and_eq_true, decide_eq_true_eq] at h3
  have e1 : varI x = x := by unfold varI; rw [if_neg (by omega)]
  have e2 : varI (-x) = x := by unfold varI; rw [if_pos (by omega)]; omega
  rw [e1] at h3
  cases hm : m.getD (x.toNat - 1) false with
  | true =>
    refine List.any_eq_true.2 ⟨x, hx, ?_⟩
    unfold isB
    rw [e1, hm, decide_eq_true h3.1, decide_eq_true h3.2, decide_eq_true h0]; rfl
  | false =>
    refine List.any_eq_true.2 ⟨-x, h2, ?_⟩
    unfold isB
    rw [e2, hm, decide_eq_true h3.1, decide_eq_true h3.2, decide_eq_false (show ¬ 0 < -x by omega)]; rfl
theorem full_snoc {n : Nat} {l : List Int} {k : Nat} (h : k < l.length) : fullB n (l.take (k + 1)) = (fullB n (l.take k) && (decide (1 ≤ varI (l[k]'h)) && decide (varI (l[k]'h) ≤ n))) := by
  unfold fullB; rw [List.take_succ_eq_append_getElem h, List.all_append]; simp
theorem Fro.cells {w : World} {base n : Nat} {A : Option Addr} {l : List Int} (h : Fro w base A n (LI l)) (h0 : 0 < n) : ∃ g, A = some ⟨g, 0, none⟩ ∧ ∀ i, i < n → w.cell? ⟨g, i, none⟩ = some (.int .i32 (l.getD i 0)) := by
  obtain ⟨hn, ⟨_, hx⟩ | ⟨g, h1, h2, t, rest, h3⟩⟩ := h
  · rw [hx] at hn; simp at hn; omega
  · refine ⟨g, h1, fun i hi => ?_⟩
    have hl : i < l.length := by
      have h5 : n = l.length := by simpa [LI] using hn
      omega
    rw [h3.cell i]
    simp [LI, List.getElem?_append_left, hl, List.getD_eq_getElem?_getD]
theorem ss_at {l : List Int} (h : Cp.SS l) {k : Nat} (h0 : 0 < k) (hk : k < l.length) : ltL (l.getD (k - 1) 0) (l.getD k 0) = true := by
  have := List.pairwise_iff_getElem.1 h (k - 1) k (by omega) hk (by omega)
  rwa [List.getD_eq_getElem?_getD, List.getD_eq_getElem?_getD, List.getElem?_eq_getElem hk, List.getElem?_eq_getElem (show k - 1 < l.length by omega)]

set_option maxRecDepth 100000 in
theorem normal_any {B : Nat} {w : World} (hB : B ≤ w.heap.size) (x : CV) (hx : ClOk B w x) (a : Option Addr) (mn mc : Nat) (m : List Bool) (hm : MdOk B w a mn m) :
    Calls Try.prog 5 #[x.v, .slice a mn mc] w fun e w' => e = .returned (.bool true) ∧ Below w.heap.size w w' := by
  have HX := Lib.hid hx
  have HM := Lib.hid hm
  have HS := Lib.hid hB
  obtain ⟨a1, n1, c1, l1⟩ := x
  have hm1 : n1 ≤ 9223372036854775807 := hx.mx
  have hm3 : mn ≤ 9223372036854775807 := hm.mx
  have HL1 := Lib.hid (show n1 = l1.length from hx.ln)
  have HI1 := Lib.hid (show InR l1 from hx.lb)
  have HFV := Lib.hid (fun (h1 : bothL l1 = true) (h2 : fullB mn l1 = true) => full_val (m := m) h1 (hm.ln ▸ h2))
  dsimp only [CV.v]
  clear hx hB hm
  by_cases p1 : 300 < n1
  · go_enter Try.func5, Try.ntmps5
    go_wp2
    go_ret
    exact ⟨rfl, Below.refl _ _⟩
  by_cases p3 : 3000 < mn
  · go_enter Try.func5, Try.ntmps5
    go_wp2
    go_ret
    exact ⟨rfl, Below.refl _ _⟩
  have CA := Lib.hid fun (W : World) (hb : Below w.heap.size w W) => HX.out.below (hb.mono HS.out)
  have CM := Lib.hid fun (W : World) (hb : Below w.heap.size w W) => HM.out.below (hb.mono HS.out)
  have CS := Lib.hid fun (W : World) (hb : Below w.heap.size w W) => Nat.le_trans HS.out hb.size
  have HC := Lib.hid (Normal_any (w := w) (B := B) ⟨a1, n1, c1, l1⟩ HX.out HS.out (by show n1 ≤ _; omega))
  have HVA := Lib.hid fun W hb => Value_any (c := mc) (CS.out W hb) (CM.out W hb) ⟨a1, n1, c1, l1⟩ (CA.out W hb)
  dsimp only [CV.v] at HC HVA
  have hlm : (normL l1).length ≤ 300 := Nat.le_trans (Cp.norm_len l1) (by have := HL1.out; omega)
  have HDI := Lib.hid (Cp.norm_in HI1.out)
  have CD := Lib.hid fun (W : World) (X : Option Addr) (hF : Fro W w.heap.size X (normL l1).length (LI (normL l1))) => (cl_fro (c := (normL l1).length) hF HDI.out (by omega))
  have HND := Lib.hid fun (W : World) (X : Option Addr) (hF : Fro W w.heap.size X (normL l1).length (LI (normL l1))) => Normal_any (w := W) ⟨X, (normL l1).length, (normL l1).length, normL l1⟩ (CD.out W X hF) (Nat.le_refl _) (by show (normL l1).length ≤ _; omega)
  have HVD := Lib.hid fun (W : World) (X : Option Addr) (hb : Below w.heap.size w W) (hF : Fro W w.heap.size X (normL l1).length (LI (normL l1))) => Value_any (c := mc) (B := W.heap.size) (Nat.le_refl _) ((CM.out W hb).up (Nat.le_trans HS.out hb.size)) ⟨X, (normL l1).length, (normL l1).length, normL l1⟩ (CD.out W X hF)
  have HSD := Lib.hid fun (W : World) (X : Option Addr) (hb : Below w.heap.size w W) (hF : Fro W w.heap.size X (normL l1).length (LI (normL l1))) => Same_any (B := W.heap.size) ⟨a1, n1, c1, l1⟩ ⟨X, (normL l1).length, (normL l1).length, normL l1⟩ ((CA.out W hb).up (CS.out W hb)) (CD.out W X hF) (Nat.le_refl _)
  dsimp only [CV.v] at HND HVD HSD
  rw [norm_idem, both_norm] at HND
  rw [same_norm] at HSD
  rw [val_norm] at HVD
  have HSS := Lib.hid (fun k h0 hk => ss_at (ss_norm l1) (k := k) h0 hk)
  generalize normL l1 = d at *
  generalize bothL l1 = bo at *
  generalize valB m l1 = vl at *
  generalize hdm : d.length = dn at *
  have HDM := Lib.hid hdm.symm
  clear hdm
  go_enter Try.func5, Try.ntmps5
  go_wp2_with fail
  refine HC.out.mono ?_
  rintro e w1 ⟨⟨X, rfl, hF⟩, hb1⟩
  have HF1 := Lib.hid hF
  have HB1 := Lib.hid hb1
  clear hF hb1 HC
  have HC := Lib.hid (HND.out w1 X HF1.out)
  go_wp2_with fail
  refine HC.out.mono ?_
  rintro e w2 ⟨⟨E, rfl, hE⟩, hb2⟩
  have HE := Lib.hid hE
  have HF := Lib.hid (HF1.out.below hb2)
  have HB2 := Lib.hid (below_then HB1.out hb2 HB1.out.size)
  clear hE hb2 HC HF1 HND
  go_wp2_with fail
  go_loopw [9, 10, 11] (fun i u v wr => ∃ k : Nat, 1 ≤ k ∧ i = .int .i64 k ∧ Below w2.heap.size w2 wr) (fun i _ _ _ => dn - (intOf i).toNat)
  case atStart => exact ⟨1, Nat.le_refl _, rfl, Below.refl _ _⟩
  case round =>
    obtain ⟨k, hk1, rfl, hb⟩ := hrel
    have HB := Lib.hid hb
    clear hb
    by_cases hlt : k < dn
    · obtain ⟨g, hg, hcs⟩ := Fro.cells (HF.out.below HB.out) (by omega)
      subst hg
      have hkd : k < d.length := by have := HDM.out; omega
      have hcy := hcs k hlt
      have hcz := hcs (k - 1) (by omega)
      have hy := HDI.out (d.getD k 0) (by rw [List.getD_eq_getElem?_getD, List.getElem?_eq_getElem hkd]; exact List.getElem_mem hkd)
      have hz := HDI.out (d.getD (k - 1) 0) (by rw [List.getD_eq_getElem?_getD, List.getElem?_eq_getElem (show k - 1 < d.length by omega)]; exact List.getElem_mem _)
      have hs := ltL_of (HSS.out k (by omega) (by have := HDM.out; omega))
      have HV1 := Lib.hid (Var_any (d.getD (k - 1) 0) hz.1 hz.2)
      have HV2 := Lib.hid (Var_any (d.getD k 0) hy.1 hy.2)
      have hcz2 : ∀ q, (wr.drewN q).cell? ⟨g, k - 1, none⟩ = some (.int .i32 (d.getD (k - 1) 0)) := fun q => hcz
      have e1 : IntKind.i64.wrap ((k : Int) - 1) = (k : Int) - 1 := IntWalk.i64_in _ (by omega)
      clear hcs hkd hcz2 hy hz
      generalize d.getD (k - 1) 0 = z at *
      generalize d.getD k 0 = y at *
      generalize varI z = vz at *
      generalize varI y = vy at *
      go_wp2_with fail
      go_quiet (first | (go_at_call_of 9 (Value.int IntKind.i32 z); exact qs (HV1.out _) ⟨_, rfl⟩) | (go_at_call_of 9 (Value.int IntKind.i32 y); exact qs (HV2.out _) ⟨_, rfl⟩))
      by_cases hv : vz < vy
      · have g1 : decide (vy < vz) = false := decide_eq_false (by omega)
        have g2 : decide (vz = vy) = false := decide_eq_false (by omega)
        have g3 : (vz == vy) = false := by simpa using (show vz ≠ vy by omega)
        clear hs hv
        go_wp2_with fail
        go_quiet (fail)
        go_wp2
        go_roundw
        case rel => exact ⟨k + 1, by omega, by go_num, belowN HB.out _⟩
        case measure => simp [intOf]; omega
      · obtain rfl : vz = vy := by omega
        have hzy : z < y := by omega
        have g3 : decide (y ≤ z) = false := decide_eq_false (by omega)
        clear hs hv
        go_wp2_with fail
        go_quiet (fail)
        go_wp2
        go_roundw
        case rel => exact ⟨k + 1, by omega, by go_num, belowN HB.out _⟩
        case measure => simp [intOf]; omega
    · rename World => wb
      have HFB := Lib.hid (HF.out.below HB.out)
      have HEB := Lib.hid (HE.out.below HB.out)
      have HBB := Lib.hid (below_then HB2.out HB.out HB2.out.size)
      go_wp2_with fail
      clear hlt hk1 HB HF HE HB2
      go_loopw [12, 13, 14] (fun f i u wr => ∃ k : Nat, k ≤ n1 ∧ i = .int .i64 k ∧ f = .bool (fullB mn (l1.take k)) ∧ Below wb.heap.size wb wr) (fun _ i _ _ => n1 - (intOf i).toNat)
      case atStart => exact ⟨0, Nat.zero_le _, rfl, rfl, Below.refl _ _⟩
      case round =>
        obtain ⟨k, hk, rfl, rfl, hb⟩ := hrel
        have HB := Lib.hid hb
        clear hb
        by_cases hlt : k < n1
        · have hkl : k < l1.length := by rw [← HL1.out]; exact hlt
          obtain ⟨b, off, ha, _, hc⟩ := RdV.at_ ((CA.out wr (below_then HBB.out HB.out HBB.out.size)).rd.rd (CS.out wr (below_then HBB.out HB.out HBB.out.size))) (enc_at (enc := Value.int .i32) hkl)
          dsimp only at ha
          subst ha
          have hlb := HI1.out _ (List.getElem_mem hkl)
          have HFS := Lib.hid (full_snoc (n := mn) hkl)
          generalize l1[k]'hkl = y at *
          have HV1 := Lib.hid (Var_any y hlb.1 hlb.2 wr)
          clear hkl hlb
          generalize varI y = vy at *
          generalize fullB mn (l1.take k) = fk at *
          go_wp2_with fail
          refine HV1.out.mono ?_
          rintro e w3 ⟨rfl, rfl⟩
          cases fk with
          | false =>
            have HG := Lib.hid (show fullB mn (l1.take (k + 1)) = false from HFS.out)
            go_wp2
            go_roundw
            case rel => exact ⟨k + 1, by omega, by go_num, by rw [HG.out], HB.out⟩
            case measure => simp [intOf]; omega
          | true =>
            by_cases q1 : 1 ≤ vy
            · by_cases q2 : vy ≤ (mn : Int)
              · have HG := Lib.hid (show fullB mn (l1.take (k + 1)) = true by rw [HFS.out, decide_eq_true q1, decide_eq_true q2]; rfl)
                go_wp2
                go_roundw
                case rel => exact ⟨k + 1, by omega, by go_num, by rw [HG.out], HB.out⟩
                case measure => simp [intOf]; omega
              · have HG := Lib.hid (show fullB mn (l1.take (k + 1)) = false by rw [HFS.out, decide_eq_false q2, Bool.and_false, Bool.and_false])
                have q3 : decide (vy ≤ (mn : Int)) = false := decide_eq_false q2
                go_wp2
                go_roundw
                case rel => exact ⟨k + 1, by omega, by go_num, by rw [HG.out], HB.out⟩
                case measure => simp [intOf]; omega
            · have HG := Lib.hid (show fullB mn (l1.take (k + 1)) = false by rw [HFS.out, decide_eq_false q1, Bool.false_and, Bool.and_false])
              have q3 : decide (1 ≤ vy) = false := decide_eq_false q1
              go_wp2
              go_roundw
              case rel => exact ⟨k + 1, by omega, by go_num, by rw [HG.out], HB.out⟩
              case measure => simp [intOf]; omega
        · have HKN := Lib.hid (show fullB mn (l1.take k) = fullB mn l1 by rw [List.take_of_length_le (by rw [← HL1.out]; omega)])
          rw [HKN.out]
          generalize fullB mn l1 = fu at *
          have HF3 := Lib.hid (HFB.out.below HB.out)
          have HB3 := Lib.hid (below_then HBB.out HB.out HBB.out.size)
          have HC := Lib.hid (same_any (w := wr) X dn dn d HDM.out (by omega) HF3.out.rd E dn dn d HDM.out (by omega) (HEB.out.below HB.out).rd)
          rw [show eqB d d = true from decide_eq_true rfl] at HC
          clear HFB HEB HBB HB HKN
          go_wp2_with fail
          refine HC.out.mono ?_
          rintro e w4 ⟨rfl, hb4⟩
          have HB4 := Lib.hid (below_then HB3.out hb4 HB3.out.size)
          have HF4 := Lib.hid (HF3.out.below hb4)
          clear hb4 HC HF3
          have HC := Lib.hid (HSD.out w4 X HB4.out HF4.out)
          go_wp2_with fail
          refine HC.out.mono ?_
          rintro e w5 ⟨rfl, hb5⟩
          have HB5 := Lib.hid (below_then HB4.out hb5 HB4.out.size)
          have HF5 := Lib.hid (HF4.out.below hb5)
          clear hb5 HC HF4
          have HC := Lib.hid (HVA.out w5 HB5.out)
          go_wp2_with fail
          refine HC.out.mono ?_
          rintro e w6 ⟨rfl, hb6⟩
          have HB6 := Lib.hid (below_then HB5.out hb6 HB5.out.size)
          have HF6 := Lib.hid (HF5.out.below hb6)
          clear hb6 HC HF5
          have HC := Lib.hid (HVD.out w6 X HB6.out HF6.out)
          go_wp2_with fail
          refine HC.out.mono ?_
          rintro e w7 ⟨rfl, hb7⟩
          have HB7 := Lib.hid (below_then HB6.out hb7 HB6.out.size)
          clear hb7 HC HF6
          cases bo with
          | false =>
            have HC := Lib.hid (works_any w7)
            go_wp2_with fail
            refine HC.out.mono ?_
            rintro e w8 ⟨rfl, hb8⟩
            have HB8 := Lib.hid (below_then HB7.out hb8 HB7.out.size)
            clear hb8 HC
            go_wp2
            go_ret
            exact ⟨rfl, HB8.out⟩
          | true =>
            cases fu with
            | false =>
              have HC := Lib.hid (works_any w7)
              go_wp2_with fail
              refine HC.out.mono ?_
              rintro e w8 ⟨rfl, hb8⟩
              have HB8 := Lib.hid (below_then HB7.out hb8 HB7.out.size)
              clear hb8 HC
              go_wp2
              go_ret
              exact ⟨rfl, HB8.out⟩
            | true =>
              obtain rfl : vl = true := HFV.out (by trivial) (by trivial)
              have HC := Lib.hid (HVA.out w7 HB7.out)
              go_wp2_with fail
              refine HC.out.mono ?_
              rintro e w7' ⟨rfl, hb7⟩
              have HB7' := Lib.hid (below_then HB7.out hb7 HB7.out.size)
              clear hb7 HC
              have HC := Lib.hid (works_any w7')
              go_wp2_with fail
              refine HC.out.mono ?_
              rintro e w8 ⟨rfl, hb8⟩
              have HB8 := Lib.hid (below_then HB7'.out hb8 HB7'.out.size)
              clear hb8 HC
              go_wp2
              go_ret
              exact ⟨rfl, HB8.out⟩
end Go.Proofs.Ytbgfijnadfeleaa.La
