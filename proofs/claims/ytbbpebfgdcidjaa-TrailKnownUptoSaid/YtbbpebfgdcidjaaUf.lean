/- The document's trail: Value, Of: what they answer. Conditions: the bounds DOk, the memory. -/
import Derived.Test.YtbbpebfgdcidjaaUe
import Derived.OwnWalk
namespace Go.Proofs.Ytbbpebfgdcidjaa.Ta
open Go.RowKit Go.Proofs.Ytbbpebfgdcidjaa.Mem Go.Proofs.Ytbbpebfgdcidjaa.Sl Go.Proofs.Ytbbpebfgdcidjaa.Cl Go.Proofs.Ytbbpebfgdcidjaa.App Go.Shelf
open Go.Proofs.Ytbbpebfgdcidjaa.FnL (enc_at below_then)
set_option linter.unusedVariables false

def negL (l : Int) : Int := IntKind.i32.wrap (-l)
def valD : List Ent → Int → Int
  | [], _ => 0
  | e :: row, l => if e.1 = l then 1 else if l ≠ 0 ∧ e.1 = negL l then -1 else valD row l
section
variable {base g c : Nat} {d : DM} {A : Option Addr} {w : World}
theorem rvalue_any (h : DrS w base g d A c) (ok : DOk d) (l : Int) : Calls Try.prog 47 #[.pointer (some ⟨g, 0, none⟩), .int .i32 l] w fun e w' => e = .returned (.int .i64 (valD d.row l)) ∧ w' = w := by
  have H := Lib.hid h
  have hln := ok.ln
  have c1 : w.cell? ⟨g, 1, none⟩ = some (.slice A d.row.length c) := h.blk.cell 1
  clear h ok
  generalize hL : d.row.length = L at *
  have HL := Lib.hid hL
  clear hL
  go_enter Try.func47, Try.ntmps47
  go_wp2_with fail
  go_loopw [5] (fun i wr => ∃ k : Nat, k ≤ L ∧ i = .int .i64 k ∧ valD (d.row.drop k) l = valD d.row l ∧ w = wr) (fun i _ => L - (intOf i).toNat)
  case atStart => exact ⟨0, Nat.zero_le _, rfl, rfl, rfl⟩
  case round =>
    obtain ⟨k, hk, rfl, hf, rfl⟩ := hrel
    have HF := Lib.hid hf
    clear hf
    by_cases hlt : k < L
    · have hkl : k < d.row.length := by rw [HL.out]; exact hlt
      obtain ⟨b, ha, _, hc0, -, -⟩ := H.out.rows.at_ hkl
      subst ha
      have HV := Lib.hid (show valD d.row l = if d.row[k].1 = l then 1 else if l ≠ 0 ∧ d.row[k].1 = negL l then -1 else valD (d.row.drop (k + 1)) l by
        rw [← HF.out, List.drop_eq_getElem_cons hkl]; rfl)
      generalize d.row[k]'hkl = y at *
      obtain ⟨x, yv, yr⟩ := y
      dsimp only at hc0 HV
      clear hkl
      have HNG := Lib.hid (show IntKind.i32.wrap (-l) = negL l from rfl)
      have hng := HNG.out
      generalize negL l = nl at *
      by_cases e1 : x = l
      · have HE := Lib.hid (HV.out.trans (if_pos e1))
        subst e1
        clear HV
        go_wp2
        go_ret
        exact ⟨by rw [HE.out]; rfl, rfl⟩
      · have HV2 := Lib.hid (HV.out.trans (if_neg e1))
        have e1' : (x == l) = false := by simpa using e1
        clear HV
        by_cases e0 : l = 0
        · have HE := Lib.hid (HV2.out.trans (if_neg (fun h => h.1 e0)))
          subst e0
          clear HV2
          go_wp2
          go_roundw
          case rel => exact ⟨k + 1, by omega, by go_num, HE.out.symm, trivial⟩
          case measure => simp [intOf]; omega
        · have e0' : (l == 0) = false := by simpa using e0
          by_cases e2 : x = nl
          · have HE := Lib.hid (HV2.out.trans (if_pos ⟨e0, e2⟩))
            subst e2
            clear HV2
            go_wp2
            go_ret
            exact ⟨by rw [HE.out]; rfl, rfl⟩
          · have HE := Lib.hid (HV2.out.trans (if_neg (fun h => e2 h.2)))
            have e2' : (x == nl) = false := by simpa using e2
            clear HV2
            go_wp2
            go_roundw
            case rel => exact ⟨k + 1, by omega, by go_num, HE.out.symm, trivial⟩
            case measure => simp [intOf]; omega
    · have HE := Lib.hid (show valD d.row l = 0 by
        rw [← HF.out, List.drop_of_length_le (by rw [HL.out]; omega)]; rfl)
      go_wp2
      go_ret
      exact ⟨by rw [HE.out]; rfl, rfl⟩
def ofD (row : List Ent) (v : Int) : Int × Int × Int := if findN row v < row.length then ((row.getD (findN row v) (0, 0, 0)).2.1, (row.getD (findN row v) (0, 0, 0)).2.2, (findN row v : Int)) else (-1, -1, -1)
theorem rof_any (h : DrS w base g d A c) (ok : DOk d) (v : Int) : Calls Try.prog 46 #[.pointer (some ⟨g, 0, none⟩), .int .i64 v] w fun e w' => e = .returned (.tuple #[.int .i64 (ofD d.row v).1, .int .i64 (ofD d.row v).2.1, .int .i64 (ofD d.row v).2.2]) ∧ Below w.heap.size w w' := by
  have HC := Lib.hid (find_any h ok v)
  have hln := ok.ln
  by_cases p : findN d.row v < d.row.length
  · have HE := Lib.hid (show ofD d.row v = ((d.row.getD (findN d.row v) (0, 0, 0)).2.1, (d.row.getD (findN d.row v) (0, 0, 0)).2.2, (findN d.row v : Int)) from if_pos p)
    have HR := Lib.hid (show findR d.row v = (findN d.row v : Int) from if_pos p)
    obtain ⟨b, ha, _, -, hc1, hc2⟩ := h.rows.at_ p
    have c1 : w.cell? ⟨g, 1, none⟩ = some (.slice A d.row.length c) := h.blk.cell 1
    subst ha
    rw [HE.out]
    rw [HR.out] at HC
    rw [List.getD_eq_getElem?_getD, List.getElem?_eq_getElem p, Option.getD_some]
    clear h ok HE HR
    generalize d.row[findN d.row v]'p = y at *
    obtain ⟨x, yv, yr⟩ := y
    dsimp only at hc1 hc2
    generalize findN d.row v = k at *
    have hk1 : (k : Int) < (d.row.length : Int) := by omega
    have hk0 : (0 : Int) ≤ (k : Int) := Int.natCast_nonneg _
    generalize d.row.length = L at *
    go_enter Try.func46, Try.ntmps46
    go_wp2_with fail
    refine HC.out.mono ?_
    rintro e w1 ⟨rfl, rfl⟩
    go_wp2_with fail
    go_quiet (fail)
    go_wp2
    go_ret3
    exact ⟨rfl, belowN (Below.refl _ _) _⟩
  · have HE := Lib.hid (show ofD d.row v = (-1, -1, -1) from if_neg p)
    have HR := Lib.hid (show findR d.row v = -1 from if_neg p)
    rw [HE.out]
    rw [HR.out] at HC
    clear h ok HE HR
    go_enter Try.func46, Try.ntmps46
    go_wp2_with fail
    refine HC.out.mono ?_
    rintro e w1 ⟨rfl, rfl⟩
    go_wp2
    go_ret3
    exact ⟨rfl, Below.refl _ _⟩
end
end Go.Proofs.Ytbbpebfgdcidjaa.Ta
